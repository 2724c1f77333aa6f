/- An index's contracts: Put, Take, Touch, Clear, Card. No condition. -/
import Derived.Test.YtcgadmeagbcbnaaDoorIdxI
namespace Go.Proofs.YtcgadmeagbcbnaaDoor
open Go.RowKit
attribute [local irreducible] Calls

def inS (s : Int) : Prop := 0 ≤ s ∧ s < 256
instance (s : Int) : Decidable (inS s) := inferInstanceAs (Decidable (_ ∧ _))
def putM (abs : List (List (Int × Int))) (i : Nat) (v : Int) (m : IM) : IM := holdM (absOf abs (m.H.getD i 0 - 1)) (absOf abs (v - 1)) i v m
def putI (abs : List (List (Int × Int))) (s c : Int) (m : IM) : IM := if inS s ∧ 0 ≤ c ∧ c < 40 then putM abs s.toNat (c + 1) m else m
def touchI (s : Int) (m : IM) : IM := ⟨m.H, upd m.Z 0 (addI (m.Z 0) s)⟩
def clearI (s : Int) (m : IM) : IM := ⟨m.H, upd m.Z 0 (delI (m.Z 0) s)⟩
def takeI (abs : List (List (Int × Int))) (s : Int) (m : IM) : IM := if inS s then clearI s (putM abs s.toNat 0 m) else m
def cardI (s : Int) (m : IM) : Int := if inS s then m.H.getD s.toNat 0 - 1 else -1
theorem good_upd {abs : List (List (Int × Int))} {m : IM} (h : IGood abs m) {S : List Nat} (hS : wfB S) : IGood abs ⟨m.H, upd m.Z 0 S⟩ := by
  refine ⟨h.len, fun s hs => ?_, h.rng, fun s hs hs' i hi => ?_⟩
  · show wfB (upd m.Z 0 S s)
    unfold upd; split
    · exact hS
    · exact h.wf s hs
  · show hasS (upd m.Z 0 S s) i = _
    unfold upd
    rw [if_neg (by omega)]
    exact h.has s hs hs' i hi
theorem good_touch {abs : List (List (Int × Int))} {m : IM} (h : IGood abs m) (s : Int) : IGood abs (touchI s m) := good_upd h (wf_addI (h.wf 0 (by omega)) s)
theorem good_clear {abs : List (List (Int × Int))} {m : IM} (h : IGood abs m) (s : Int) : IGood abs (clearI s m) := good_upd h (wf_delI (h.wf 0 (by omega)) s)
theorem good_putM {abs : List (List (Int × Int))} {m : IM} (h : IGood abs m) {i : Nat} (hi : i < 256) {v : Int} (h0 : 0 ≤ v) (h1 : v ≤ 40) : IGood abs (putM abs i v m) := (good_hold h hi h0 h1).1
theorem good_put {abs : List (List (Int × Int))} {m : IM} (h : IGood abs m) (s c : Int) : IGood abs (putI abs s c m) := by
  unfold putI; split
  · rename_i hh; exact good_putM h (by have := hh.1.2; have := hh.1.1; omega) (by omega) (by omega)
  · exact h
theorem good_take {abs : List (List (Int × Int))} {m : IM} (h : IGood abs m) (s : Int) : IGood abs (takeI abs s m) := by
  unfold takeI; split
  · rename_i hh; exact good_clear (good_putM h (by have := hh.2; have := hh.1; omega) (by omega) (by omega)) s
  · exact h
section
variable {w0 w w1 w' : World} {col : Nat → Nat} {c k n : Nat} {b : IB} {q : List Int × List (Int × Int)} {m m' : IM}
theorem touch_any (h : IS w0 w col c b k q m) (hk : k ≤ 800000000) (s : Int) : Calls Tryd.prog 13 #[.pointer (some ⟨b.X, 0, none⟩), .int .i64 s] w fun e w' => e = .returned (.tuple #[]) ∧ ISN w0 w w' col c b (k + 60) q (touchI s m) := by
  have hb := fb_alloc (Below.refl _ w) (.cells #[.int .i64 s] 3)
  have hI := ISN.same h hb
  have hB := Boxed.new w 3 (.int .i64 s)
  obtain ⟨a, ha⟩ : ∃ a, b.base + 256 + 4 * 0 = a := ⟨_, rfl⟩
  have c4 : (w.alloc (.cells #[.int .i64 s] 3)).cell? ⟨b.X, 4, none⟩ = some (.int .i64 ((b.base + 256 : Nat) : Int)) := hI.1.fo.x.cell 4
  rw [show b.base + 256 = a by omega] at c4
  have HF := Lib.hid hI.1.fo
  have HC := Lib.hid (change_touch hI.1 (by omega) 0 a (by omega) ha w.heap.size s hB.cell)
  have HI := Lib.hid hI
  clear h hI hB ha hb
  go_enter Tryd.func13, Tryd.ntmps13
  go_wp2_with (go_at_call 35; refine (ix_none HF.out).mono ?_; rintro e w' ⟨rfl, rfl⟩)
  refine HC.out.mono ?_
  rintro e w3 ⟨rfl, hN⟩
  have HN := Lib.hid ((HI.out.trans hN).mono (n := k + 60) (by omega))
  clear hN HC HF
  go_wp2
  go_end0
  exact ⟨rfl, HN.out⟩
theorem clear_any (h : IS w0 w col c b k q m) (hk : k ≤ 800000000) (s : Int) : Calls Tryd.prog 15 #[.pointer (some ⟨b.X, 0, none⟩), .int .i64 s] w fun e w' => e = .returned (.tuple #[]) ∧ ISN w0 w w' col c b (k + 60) q (clearI s m) := by
  have hb := fb_alloc (Below.refl _ w) (.cells #[.int .i64 s] 3)
  have hI := ISN.same h hb
  have hB := Boxed.new w 3 (.int .i64 s)
  obtain ⟨a, ha⟩ : ∃ a, b.base + 256 + 4 * 0 = a := ⟨_, rfl⟩
  have c4 : (w.alloc (.cells #[.int .i64 s] 3)).cell? ⟨b.X, 4, none⟩ = some (.int .i64 ((b.base + 256 : Nat) : Int)) := hI.1.fo.x.cell 4
  rw [show b.base + 256 = a by omega] at c4
  have HF := Lib.hid hI.1.fo
  have HC := Lib.hid (change_clear hI.1 (by omega) 0 a (by omega) ha w.heap.size s hB.cell)
  have HI := Lib.hid hI
  clear h hI hB ha hb
  go_enter Tryd.func15, Tryd.ntmps15
  go_wp2_with (go_at_call 35; refine (ix_none HF.out).mono ?_; rintro e w' ⟨rfl, rfl⟩)
  refine HC.out.mono ?_
  rintro e w3 ⟨rfl, hN⟩
  have HN := Lib.hid ((HI.out.trans hN).mono (n := k + 60) (by omega))
  clear hN HC HF
  go_wp2
  go_end0
  exact ⟨rfl, HN.out⟩
theorem touch_nil (w : World) (s : Int) : Calls Tryd.prog 13 #[.pointer none, .int .i64 s] w fun e w' => e = .returned (.tuple #[]) ∧ Below w.heap.size w w' := by
  go_enter Tryd.func13, Tryd.ntmps13
  go_wp2_with (go_at_call 35; refine (ix_nil _).mono ?_; rintro e w' ⟨rfl, rfl⟩)
  go_end0
  exact ⟨rfl, fb_alloc (Below.refl _ w) _⟩
theorem clear_nil (w : World) (s : Int) : Calls Tryd.prog 15 #[.pointer none, .int .i64 s] w fun e w' => e = .returned (.tuple #[]) ∧ Below w.heap.size w w' := by
  go_enter Tryd.func15, Tryd.ntmps15
  go_wp2_with (go_at_call 35; refine (ix_nil _).mono ?_; rintro e w' ⟨rfl, rfl⟩)
  go_end0
  exact ⟨rfl, fb_alloc (Below.refl _ w) _⟩
theorem put_nil (w : World) (s cd : Int) : Calls Tryd.prog 18 #[.pointer none, .int .i64 s, .int .i64 cd] w fun e w' => e = .returned (.tuple #[]) ∧ w = w' := by
  go_enter Tryd.func18, Tryd.ntmps18
  go_wp2_with (go_at_call 35; refine (ix_nil _).mono ?_; rintro e w' ⟨rfl, rfl⟩)
  go_end0
  exact ⟨rfl, rfl⟩
theorem take_nil (w : World) (s : Int) : Calls Tryd.prog 11 #[.pointer none, .int .i64 s] w fun e w' => e = .returned (.tuple #[]) ∧ w = w' := by
  go_enter Tryd.func11, Tryd.ntmps11
  go_wp2_with (go_at_call 35; refine (ix_nil _).mono ?_; rintro e w' ⟨rfl, rfl⟩)
  go_end0
  exact ⟨rfl, rfl⟩
theorem put_yes (h : IS w0 w col c b k q m) (hg : IGood b.abs m) (hk : k ≤ 800000000) (i : Nat) (hi : i < 256) (cd : Int) (h0 : 0 ≤ cd) (h1 : cd < 40) : Calls Tryd.prog 18 #[.pointer (some ⟨b.X, 0, none⟩), .int .i64 (i : Int), .int .i64 cd] w fun e w' => e = .returned (.tuple #[]) ∧ ISN w0 w w' col c b (k + 50) q (putM b.abs i (cd + 1) m) := by
  have HF := Lib.hid h.fo
  have HC := Lib.hid (hold_any h hk i hi (cd + 1) (by omega) (by omega) (hg.rng i hi))
  have i0 : (0 : Int) ≤ i := by omega
  have i1 : (i : Int) < 256 := by omega
  clear h hg
  go_enter Tryd.func18, Tryd.ntmps18
  go_wp2_with (first | (go_at_call 35; refine (ix_none HF.out).mono ?_; rintro e w' ⟨rfl, rfl⟩) | (go_at_call 36; refine (iplace_yes (i : Int) _ i0 i1).mono ?_; rintro e w' ⟨rfl, rfl⟩))
  refine HC.out.mono ?_
  rintro e w3 ⟨rfl, hN⟩
  have HN := Lib.hid hN
  clear hN HC HF
  go_wp2
  go_end0
  exact ⟨rfl, HN.out⟩
theorem put_no (h : IS w0 w col c b k q m) (s cd : Int) (hn : ¬ (inS s ∧ 0 ≤ cd ∧ cd < 40)) : Calls Tryd.prog 18 #[.pointer (some ⟨b.X, 0, none⟩), .int .i64 s, .int .i64 cd] w fun e w' => e = .returned (.tuple #[]) ∧ w = w' := by
  have HF := Lib.hid h.fo
  clear h
  by_cases hs : inS s
  · obtain ⟨i0, i1⟩ := hs
    have hc : ¬ (0 ≤ cd ∧ cd < 40) := fun h => hn ⟨⟨i0, i1⟩, h⟩
    by_cases h0 : 0 ≤ cd
    · have h1 : ¬ cd < 40 := fun h => hc ⟨h0, h⟩
      clear hn hc
      go_enter Tryd.func18, Tryd.ntmps18
      go_wp2_with (first | (go_at_call 35; refine (ix_none HF.out).mono ?_; rintro e w' ⟨rfl, rfl⟩) | (go_at_call 36; refine (iplace_yes s _ i0 i1).mono ?_; rintro e w' ⟨rfl, rfl⟩))
      go_end0
      exact ⟨rfl, rfl⟩
    · clear hn hc
      go_enter Tryd.func18, Tryd.ntmps18
      go_wp2_with (first | (go_at_call 35; refine (ix_none HF.out).mono ?_; rintro e w' ⟨rfl, rfl⟩) | (go_at_call 36; refine (iplace_yes s _ i0 i1).mono ?_; rintro e w' ⟨rfl, rfl⟩))
      go_end0
      exact ⟨rfl, rfl⟩
  · have HI := Lib.hid (show s < 0 ∨ 256 ≤ s by unfold inS at hs; omega)
    clear hn hs
    go_enter Tryd.func18, Tryd.ntmps18
    go_wp2_with (first | (go_at_call 35; refine (ix_none HF.out).mono ?_; rintro e w' ⟨rfl, rfl⟩) | (go_at_call 36; refine (iplace_no s _ HI.out).mono ?_; rintro e w' ⟨rfl, rfl⟩))
    go_end0
    exact ⟨rfl, rfl⟩
theorem put_any (h : IS w0 w col c b k q m) (hg : IGood b.abs m) (hk : k ≤ 800000000) (s cd : Int) : Calls Tryd.prog 18 #[.pointer (some ⟨b.X, 0, none⟩), .int .i64 s, .int .i64 cd] w fun e w' => e = .returned (.tuple #[]) ∧ ISN w0 w w' col c b (k + 60) q (putI b.abs s cd m) := by
  unfold putI
  by_cases hh : inS s ∧ 0 ≤ cd ∧ cd < 40
  · rw [if_pos hh]
    obtain ⟨⟨i0, i1⟩, h0, h1⟩ := hh
    obtain ⟨i, rfl⟩ := Int.eq_ofNat_of_zero_le i0
    exact (put_yes h hg hk i (by omega) cd h0 h1).mono fun e w' ⟨h1, h2⟩ => ⟨h1, h2.mono (by omega)⟩
  · rw [if_neg hh]
    exact (put_no h s cd hh).mono fun e w' ⟨h1, h2⟩ => ⟨h1, by subst h2; exact (ISN.same h (Below.refl _ _)).mono (by omega)⟩
theorem take_any (h : IS w0 w col c b k q m) (hg : IGood b.abs m) (hk : k ≤ 700000000) (s : Int) : Calls Tryd.prog 11 #[.pointer (some ⟨b.X, 0, none⟩), .int .i64 s] w fun e w' => e = .returned (.tuple #[]) ∧ ISN w0 w w' col c b (k + 110) q (takeI b.abs s m) := by
  have HF := Lib.hid h.fo
  unfold takeI
  by_cases hs : inS s
  · rw [if_pos hs]
    obtain ⟨i0, i1⟩ := hs
    obtain ⟨i, rfl⟩ := Int.eq_ofNat_of_zero_le i0
    rw [Int.toNat_natCast]
    have HC := Lib.hid (hold_any h (by omega) i (by omega) 0 (by omega) (by omega) (hg.rng i (by omega)))
    clear h hg
    go_enter Tryd.func11, Tryd.ntmps11
    go_wp2_with (first | (go_at_call 35; refine (ix_none HF.out).mono ?_; rintro e w' ⟨rfl, rfl⟩) | (go_at_call 36; refine (iplace_yes (i : Int) _ i0 i1).mono ?_; rintro e w' ⟨rfl, rfl⟩))
    refine HC.out.mono ?_
    rintro e w3 ⟨rfl, hN⟩
    have HN := Lib.hid hN
    have HC2 := Lib.hid (clear_any hN.1 (by omega) (i : Int))
    clear hN HC HF
    go_wp2_with fail
    refine HC2.out.mono ?_
    rintro e w4 ⟨rfl, hN⟩
    have HN2 := Lib.hid (HN.out.trans hN)
    clear hN HC2 HN
    go_wp2
    go_end0
    exact ⟨rfl, HN2.out⟩
  · rw [if_neg hs]
    have HI := Lib.hid (show s < 0 ∨ 256 ≤ s by unfold inS at hs; omega)
    have HS := Lib.hid ((ISN.same h (Below.refl _ _)).mono (n := k + 110) (by omega))
    clear hs h hg
    go_enter Tryd.func11, Tryd.ntmps11
    go_wp2_with (first | (go_at_call 35; refine (ix_none HF.out).mono ?_; rintro e w' ⟨rfl, rfl⟩) | (go_at_call 36; refine (iplace_no s _ HI.out).mono ?_; rintro e w' ⟨rfl, rfl⟩))
    go_end0
    exact ⟨rfl, HS.out⟩
theorem icard_any (h : IS w0 w col c b k q m) (hg : IGood b.abs m) (s : Int) : Calls Tryd.prog 20 #[.pointer (some ⟨b.X, 0, none⟩), .int .i64 s] w fun e w' => e = .returned (.int .i64 (cardI s m)) ∧ ∃ n, w.drewN n = w' := by
  unfold cardI
  by_cases hs : inS s
  · rw [if_pos hs]
    obtain ⟨i, rfl⟩ := Int.eq_ofNat_of_zero_le hs.1
    exact icard_yes h i (by have := hs.2; omega) (hg.rng i (by have := hs.2; omega))
  · rw [if_neg hs]
    exact (icard_no h.fo s (by unfold inS at hs; omega)).mono fun e w' ⟨h1, h2⟩ => ⟨h1, 0, h2⟩
/-- What Having answers. -/
def havingI (kd e : Int) (m : IM) : List Nat := if kx kd e = 0 then [0, 0, 0, 0] else m.Z (kx kd e)
theorem having_any (h : IS w0 w col c b k q m) (kd e : Int) (hw : wf2 kd e) : Calls Tryd.prog 26 #[.pointer (some ⟨b.X, 0, none⟩), .int .i64 kd, .int .i64 e] w fun e' w' => e' = .returned (svL (havingI kd e m)) ∧ Below w.heap.size w w' := by
  unfold havingI
  by_cases hx : kx kd e = 0
  · rw [if_pos hx]; exact having_no h kd e hw hx
  · rw [if_neg hx]; exact having_yes h kd e hw hx
end
end Go.Proofs.YtcgadmeagbcbnaaDoor
