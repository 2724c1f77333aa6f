/- The walks of a trail's readers: New, Len, Mark, has, Get. No condition. -/
import Derived.Test.YtcgadmeagbcbnaaDoorTrailRep
namespace Go.Proofs.YtcgadmeagbcbnaaDoor
open Go.RowKit

theorem tnew_any (w : World) : Calls Tryd.prog 8 #[] w fun e w' => e = .returned (.pointer (some ⟨w.heap.size, 0, none⟩)) ∧ w.alloc (.cells #[.slice none 0 0, .slice none 0 0] 70) = w' := by
  go_enter Tryd.func8, Tryd.ntmps8
  go_wp2
  go_ret
  exact ⟨rfl, rfl⟩

theorem tlen_nil (w : World) : Calls Tryd.prog 60 #[.pointer none] w fun e w' => e = .returned (.int .i64 0) ∧ w = w' := by
  go_enter Tryd.func60, Tryd.ntmps60
  go_wp2
  go_ret
  exact ⟨rfl, rfl⟩
theorem tmark_nil (w : World) : Calls Tryd.prog 16 #[.pointer none] w fun e w' => e = .returned (.int .i64 0) ∧ w = w' := by
  go_enter Tryd.func16, Tryd.ntmps16
  go_wp2
  go_ret
  exact ⟨rfl, rfl⟩

section
variable {w : World} {base T : Nat} {ao bo : Option Addr} {ca cb : Nat} {cs : List Int} {hs : List (Int × Int)}
theorem tlen_any (h : TrAt w base T ao bo ca cb cs hs) : Calls Tryd.prog 60 #[.pointer (some ⟨T, 0, none⟩)] w fun e w' => e = .returned (.int .i64 cs.length) ∧ w = w' := by
  have c0 := h.c0
  clear h
  go_enter Tryd.func60, Tryd.ntmps60
  go_wp2
  go_ret
  exact ⟨rfl, rfl⟩
theorem tmark_any (h : TrAt w base T ao bo ca cb cs hs) : Calls Tryd.prog 16 #[.pointer (some ⟨T, 0, none⟩)] w fun e w' => e = .returned (.int .i64 hs.length) ∧ w = w' := by
  have c0 := h.c1
  clear h
  go_enter Tryd.func16, Tryd.ntmps16
  go_wp2
  go_ret
  exact ⟨rfl, rfl⟩

theorem thas_nil (i : Int) (w : World) : Calls Tryd.prog 55 #[.pointer none, .int .i64 i] w fun e w' => e = .returned (.bool false) ∧ w = w' := by
  by_cases h0 : 0 ≤ i
  · go_enter Tryd.func55, Tryd.ntmps55
    go_wp2_with (go_at_call 60; refine (tlen_nil _).mono ?_; rintro e w' ⟨rfl, rfl⟩)
    go_ret
    exact ⟨ret_b (by simp; omega), rfl⟩
  · have h0' : i < 0 := by omega
    clear h0
    go_enter Tryd.func55, Tryd.ntmps55
    go_wp2
    go_ret
    exact ⟨rfl, rfl⟩
/-- Is there a cell of that number? -/
def hasB (cs : List Int) (i : Int) : Bool := decide (0 ≤ i ∧ i < cs.length)
theorem thas_any (h : TrAt w base T ao bo ca cb cs hs) (i : Int) : Calls Tryd.prog 55 #[.pointer (some ⟨T, 0, none⟩), .int .i64 i] w fun e w' => e = .returned (.bool (hasB cs i)) ∧ w = w' := by
  have hl := Lib.hid (tlen_any h)
  clear h
  by_cases h0 : 0 ≤ i
  · go_enter Tryd.func55, Tryd.ntmps55
    go_wp2_with (go_at_call 60; refine hl.out.mono ?_; rintro e w' ⟨rfl, rfl⟩)
    go_ret
    exact ⟨ret_b (by unfold hasB; simp [h0]), rfl⟩
  · have h0' : i < 0 := by omega
    clear h0
    go_enter Tryd.func55, Tryd.ntmps55
    go_wp2
    go_ret
    exact ⟨ret_b (by unfold hasB; simp; omega), rfl⟩

/-- A cell's number; 0, if there is none. -/
def getZ (cs : List Int) (i : Int) : Int := if 0 ≤ i ∧ i < cs.length then cs.getD i.toNat 0 else 0
theorem tget_nil (i : Int) (w : World) : Calls Tryd.prog 43 #[.pointer none, .int .i64 i] w fun e w' => e = .returned (.int .i64 0) ∧ w = w' := by
  go_enter Tryd.func43, Tryd.ntmps43
  go_wp2_with (go_at_call 55; refine (thas_nil _ _).mono ?_; rintro e w' ⟨rfl, rfl⟩)
  go_ret
  exact ⟨rfl, rfl⟩
theorem tget_any (h : TrAt w base T ao bo ca cb cs hs) (i : Int) : Calls Tryd.prog 43 #[.pointer (some ⟨T, 0, none⟩), .int .i64 i] w fun e w' => e = .returned (.int .i64 (getZ cs i)) ∧ w = w' := by
  by_cases hi : 0 ≤ i ∧ i < cs.length
  · have hB : hasB cs i = true := decide_eq_true hi
    have hg : getZ cs i = cs.getD i.toNat 0 := if_pos hi
    have hh := thas_any h i
    rw [hB] at hh
    have Hh := Lib.hid hh
    obtain ⟨n, rfl⟩ := Int.eq_ofNat_of_zero_le hi.1
    obtain ⟨g, rfl, _, _, _, hc, _⟩ := h.cell (i := n) (by omega)
    have c0 := h.c0
    rw [hg]
    obtain ⟨v, hv⟩ : ∃ v, cs.getD n 0 = v := ⟨_, rfl⟩
    have hv' : cs.getD ((n : Int)).toNat 0 = v := hv
    rw [hv] at hc
    have hlt : (n : Int) < cs.length := hi.2
    rw [hv']
    clear h hi hB hg hh hv hv'
    go_enter Tryd.func43, Tryd.ntmps43
    go_wp2_with (go_at_call 55; refine Hh.out.mono ?_; rintro e w' ⟨rfl, rfl⟩)
    go_ret
    exact ⟨rfl, rfl⟩
  · have hB : hasB cs i = false := decide_eq_false hi
    have hg : getZ cs i = 0 := if_neg hi
    have hh := thas_any h i
    rw [hB] at hh
    have Hh := Lib.hid hh
    rw [hg]
    clear h hi hB hg hh
    go_enter Tryd.func43, Tryd.ntmps43
    go_wp2_with (go_at_call 55; refine Hh.out.mono ?_; rintro e w' ⟨rfl, rfl⟩)
    go_ret
    exact ⟨rfl, rfl⟩
end
end Go.Proofs.YtcgadmeagbcbnaaDoor
