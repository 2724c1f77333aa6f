/- The walk of all: the handles of the first twenty slots, and how many there are. No condition. -/
import Derived.Test.YtfkkkndigkchcaaArenaS
import Derived.Test.YtfkkkndigkchcaaTrailCells
namespace Go.Proofs.Ytfkkkndigkchcaa
open Go.RowKit
attribute [local irreducible] Calls

def atL (M : AM) (k : Nat) : List Int := (List.range k).map fun i : Nat => M.at (i : Int)
def allL (M : AM) (cap : Nat) : List Int := atL M 20 ++ [(cap : Int) - M.row.length]
theorem atL_succ (M : AM) (k : Nat) : atL M (k + 1) = atL M k ++ [M.at (k : Int)] := by
  unfold atL; rw [List.range_succ, List.map_append]; rfl
theorem atL_len (M : AM) (k : Nat) : (atL M k).length = k := by simp [atL]
section
variable {w0 w : World} {col : Nat → Nat} {c A Bb Ba T base cap k : Nat} {q : List Int × List (Int × Int)} {M : AM}
set_option maxRecDepth 100000 in
set_option maxHeartbeats 1000000 in
theorem all_any (h : AS w0 w col c A Bb Ba T base cap k q M) (hk : k ≤ 1000000) :
    Calls Try.prog 60 #[.pointer (some ⟨A, 0, none⟩)] w fun e w' => ∃ v, e = .returned v ∧ IRow w' w.heap.size v (allL M cap) ∧ Below w.heap.size w w' := by
  obtain ⟨i0, hi, hz0, hz1, hz2⟩ := info_parts infoI
  have HT := Lib.hid h
  have hrl := h.rep.2.2.1
  clear h
  go_enter Try.func60, Try.ntmps60
  go_wp2
  go_loopw [3, 4] (fun v i wr => ∃ j : Nat, j ≤ 20 ∧ i = .int .i64 j ∧ IRow wr w.heap.size v (atL M j) ∧ Below w.heap.size w wr) (fun _ i _ => 20 - (intOf i).toNat)
  case atStart => exact ⟨0, Nat.zero_le _, rfl, IRow.nil _ _, Below.refl _ _⟩
  case round =>
    obtain ⟨j, hj, rfl, hown, hbel⟩ := hrel
    have HW := Lib.hid (HT.out.below hbel 0)
    by_cases hlt : j < 20
    · have hkl : (atL M j).length ≤ 1048576 := by rw [atL_len]; omega
      obtain ⟨x, hx⟩ : ∃ x, M.at (j : Int) = x := ⟨_, rfl⟩
      have HX := Lib.hid hx
      have hc := Lib.hid (as_at HW.out hk (j : Int))
      rw [hx] at hc
      clear hx
      have H0 := Lib.hid (And.intro hown hbel)
      clear hown hbel
      go_wp2_with (first | (go_at_call 55; refine hc.out.mono ?_; rintro e w5 ⟨rfl, hb5⟩; have hown := H0.out.1.below hb5; have hbel := fb_call H0.out.2 hb5) | (at_builtin; refine wpList_append_own _ rfl _ _ 34 rfl w.heap.size 3 i0 (.int .i64 0) 1 8 Try.underlying34 hi hz0 hz1 hz2 rfl (by decide) _ _ _ rfl (hown.alloc _) ⟨w5.heap.size, 0, none⟩ 1 1 [.int .i64 x] rfl rfl (cell_one_new _ _ _) (by simp [Value.oneCell']) (by unfold maxLen; omega) (by omega) (by have := hbel.size; simp; omega) ?_; intro v' w1 hown' hgrow hfr'))
      go_roundw
      case rel => exact ⟨j + 1, by omega, by go_num, by rw [atL_succ, HX.out]; exact IRow.app hown', IRow.appBel hbel hown hgrow⟩
      case measure => simp [intOf]; omega
    · obtain rfl : j = 20 := by omega
      have hkl : (atL M 20).length ≤ 1048576 := by rw [atL_len]; omega
      have hc := Lib.hid (as_len HW.out)
      have H0 := Lib.hid (And.intro hown hbel)
      clear hown hbel
      obtain ⟨x, hx⟩ : ∃ x, (cap : Int) - M.row.length = x := ⟨_, rfl⟩
      have HX := Lib.hid hx
      rw [hx] at hc
      clear hx
      go_wp2_with (first | (go_at_call 57; refine hc.out.mono ?_; rintro e w5 ⟨rfl, hb5⟩; have hown := H0.out.1.below hb5; have hbel := fb_call H0.out.2 hb5) | (at_builtin; refine wpList_append_own _ rfl _ _ 34 rfl w.heap.size 3 i0 (.int .i64 0) 1 8 Try.underlying34 hi hz0 hz1 hz2 rfl (by decide) _ _ _ rfl (hown.alloc _) ⟨w5.heap.size, 0, none⟩ 1 1 [.int .i64 x] rfl rfl (cell_one_new _ _ _) (by simp [Value.oneCell']) (by unfold maxLen; omega) (by omega) (by have := hbel.size; simp; omega) ?_; intro v' w1 hown' hgrow hfr'))
      go_ret
      exact ⟨_, rfl, by unfold allL; rw [HX.out]; exact IRow.app hown', IRow.appBel hbel hown hgrow⟩
end
end Go.Proofs.Ytfkkkndigkchcaa
