/- An index and boxes beside it: the contracts over both. No condition. -/
import Derived.Test.YtcgadmeagbcbnaaDoorIdxWorks
namespace Go.Proofs.YtcgadmeagbcbnaaDoor
open Go.RowKit
attribute [local irreducible] Calls

theorem setC_far {b : Nat} {cs : List Int} {m : IM} (h : IHolds b cs m) {i v : Int} (hi : (b : Int) + 400 ≤ i) : IHolds b (setC cs i v) m := by
  obtain ⟨h1, h2, h3, h4⟩ := h
  unfold setC
  split
  · rename_i hh
    obtain ⟨n, rfl⟩ := Int.eq_ofNat_of_zero_le hh.1
    have hn : n < cs.length := by have := hh.2; omega
    rw [Int.toNat_natCast]
    exact ⟨by rw [List.length_set]; exact h1, h2, fun k hk => by rw [getD_setI _ _ _ _ hn, if_neg (by omega)]; exact h3 k hk, fun s hs => ⟨(h4 s hs).1, fun j hj => by rw [getD_setI _ _ _ _ hn, if_neg (by omega)]; exact (h4 s hs).2 j hj⟩⟩
  · exact ⟨h1, h2, h3, h4⟩
/-- An index (of the colour 1), and boxes that are not its own. -/
def XB (w0 w : World) (b : IB) (k : Nat) (q : List Int × List (Int × Int)) (m : IM) (R : List (Nat × TypeId × List Value)) : Prop :=
  IGood b.abs m ∧ ∃ col, IS w0 w col 1 b k q m ∧ ∀ x ∈ R, col x.1 ≠ 1 ∧ Arr w x.1 x.2.1 x.2.2
section
variable {w0 w w1 w' : World} {k n : Nat} {b : IB} {q : List Int × List (Int × Int)} {m m' : IM} {R : List (Nat × TypeId × List Value)}
theorem XB.bel (h : XB w0 w b k q m R) : Below w0.heap.size w0 w := by obtain ⟨_, _, h, _⟩ := h; exact h.bel
theorem XB.good (h : XB w0 w b k q m R) : IGood b.abs m := h.1
theorem XB.fo (h : XB w0 w b k q m R) : IxF w b := by obtain ⟨_, _, h, _⟩ := h; exact h.fo
theorem XB.mono (h : XB w0 w b k q m R) (hn : k ≤ n) : XB w0 w b n q m R := by obtain ⟨h0, col, h1, h2⟩ := h; exact ⟨h0, col, h1.mono hn, h2⟩
theorem XB.at (h : XB w0 w b k q m R) {B : Nat} {t : TypeId} {vs : List Value} (hx : (B, t, vs) ∈ R) : Arr w B t vs := by obtain ⟨_, col, _, h2⟩ := h; exact (h2 _ hx).2
theorem XB.less {R' : List (Nat × TypeId × List Value)} (h : XB w0 w b k q m R) (hR : ∀ x ∈ R', x ∈ R) : XB w0 w b k q m R' := by obtain ⟨h0, col, h1, h2⟩ := h; exact ⟨h0, col, h1, fun x hx => h2 x (hR x hx)⟩
theorem XB.below (h : XB w0 w b k q m R) (hb : Below w.heap.size w w') : XB w0 w' b k q m R := by
  obtain ⟨h0, col, h1, h2⟩ := h
  exact ⟨h0, _, h1.below hb 2, fun x hx => ⟨by rw [recol_lt (h2 x hx).2.lt]; exact (h2 x hx).1, (h2 x hx).2.below hb (h2 x hx).2.lt⟩⟩
theorem XB.box (h : XB w0 w b k q m R) (t : TypeId) (vs : List Value) : XB w0 (w.alloc (.cells vs.toArray t)) b k q m ((w.heap.size, t, vs) :: R) := by
  obtain ⟨h0, col, h1, h2⟩ := h
  have hb := fb_alloc (Below.refl _ w) (.cells vs.toArray t)
  refine ⟨h0, _, h1.below hb 2, fun x hx => ?_⟩
  rcases List.mem_cons.1 hx with rfl | hx
  · exact ⟨by rw [recol_ge (Nat.le_refl _)]; decide, Arr.new w t vs⟩
  · exact ⟨by rw [recol_lt (h2 x hx).2.lt]; exact (h2 x hx).1, (h2 x hx).2.below hb (h2 x hx).2.lt⟩
/-- The first box is written. -/
theorem XB.set {B : Nat} {t : TypeId} {vs : List Value} (h : XB w0 w b k q m ((B, t, vs) :: R)) (hB : w0.heap.size ≤ B) (hne : ∀ x ∈ R, x.1 ≠ B) (j : Nat) (v : Value) : XB w0 (w.setCell ⟨B, j, none⟩ v) b k q m ((B, t, vs.set j v) :: R) := by
  obtain ⟨h0, col, h1, h2⟩ := h
  have hm := Moved.of_set w ⟨B, j, none⟩ v (S := fun k => k = B) rfl
  have hB1 := h2 (B, t, vs) (by simp)
  refine ⟨h0, _, h1.moved (a := col B) hm (fun j hj _ => by rw [hj]) (fun j hj => by rw [hj]; exact hB) (Ne.symm hB1.1), fun x hx => ?_⟩
  rcases List.mem_cons.1 hx with rfl | hx
  · exact ⟨by dsimp only; rw [recol_lt hB1.2.lt]; exact hB1.1, hB1.2.set j v⟩
  · have h3 := h2 x (by simp [hx])
    exact ⟨by rw [recol_lt h3.2.lt]; exact h3.1, h3.2.set_other _ _ (hne x hx)⟩
theorem XB.next (h : XB w0 w b k q m R) : ∃ col, IS w0 w col 1 b k q m ∧ ∀ (w' : World) (n : Nat) (q' : List Int × List (Int × Int)) (m' : IM), ISN w0 w w' col 1 b n q' m' → IGood b.abs m' → XB w0 w' b n q' m' R := by
  obtain ⟨h0, col, h1, h2⟩ := h
  refine ⟨col, h1, fun w' n q' m' hN hg => ⟨hg, _, hN.1, fun x hx => ?_⟩⟩
  have h3 := h2 x hx
  exact ⟨by rw [recol_lt h3.2.lt]; exact h3.1, (hN.2.block x.1 h3.2.lt h3.1).trans h3.2⟩
theorem xb_put (h : XB w0 w b k q m R) (hk : k ≤ 700000000) (s cd : Int) : Calls Tryd.prog 18 #[.pointer (some ⟨b.X, 0, none⟩), .int .i64 s, .int .i64 cd] w fun e w' => e = .returned (.tuple #[]) ∧ XB w0 w' b (k + 60) q (putI b.abs s cd m) R := by
  obtain ⟨col, h1, h2⟩ := h.next
  exact (put_any h1 h.good (by omega) s cd).mono fun e w' ⟨he, hN⟩ => ⟨he, h2 _ _ _ _ hN (good_put h.good s cd)⟩
theorem xb_take (h : XB w0 w b k q m R) (hk : k ≤ 700000000) (s : Int) : Calls Tryd.prog 11 #[.pointer (some ⟨b.X, 0, none⟩), .int .i64 s] w fun e w' => e = .returned (.tuple #[]) ∧ XB w0 w' b (k + 110) q (takeI b.abs s m) R := by
  obtain ⟨col, h1, h2⟩ := h.next
  exact (take_any h1 h.good hk s).mono fun e w' ⟨he, hN⟩ => ⟨he, h2 _ _ _ _ hN (good_take h.good s)⟩
theorem xb_touch (h : XB w0 w b k q m R) (hk : k ≤ 700000000) (s : Int) : Calls Tryd.prog 13 #[.pointer (some ⟨b.X, 0, none⟩), .int .i64 s] w fun e w' => e = .returned (.tuple #[]) ∧ XB w0 w' b (k + 60) q (touchI s m) R := by
  obtain ⟨col, h1, h2⟩ := h.next
  exact (touch_any h1 (by omega) s).mono fun e w' ⟨he, hN⟩ => ⟨he, h2 _ _ _ _ hN (good_touch h.good s)⟩
theorem xb_clear (h : XB w0 w b k q m R) (hk : k ≤ 700000000) (s : Int) : Calls Tryd.prog 15 #[.pointer (some ⟨b.X, 0, none⟩), .int .i64 s] w fun e w' => e = .returned (.tuple #[]) ∧ XB w0 w' b (k + 60) q (clearI s m) R := by
  obtain ⟨col, h1, h2⟩ := h.next
  exact (clear_any h1 (by omega) s).mono fun e w' ⟨he, hN⟩ => ⟨he, h2 _ _ _ _ hN (good_clear h.good s)⟩
theorem xb_card (h : XB w0 w b k q m R) (s : Int) : Calls Tryd.prog 20 #[.pointer (some ⟨b.X, 0, none⟩), .int .i64 s] w fun e w' => e = .returned (.int .i64 (cardI s m)) ∧ ∃ n, w.drewN n = w' := by
  obtain ⟨col, h1, _⟩ := h.next
  exact icard_any h1 h.good s
theorem xb_having (h : XB w0 w b k q m R) (kd e : Int) (hw : wf2 kd e) : Calls Tryd.prog 26 #[.pointer (some ⟨b.X, 0, none⟩), .int .i64 kd, .int .i64 e] w fun e' w' => e' = .returned (svL (havingI kd e m)) ∧ Below w.heap.size w w' := by
  obtain ⟨col, h1, _⟩ := h.next
  exact having_any h1 kd e hw
theorem xb_touched (h : XB w0 w b k q m R) : Calls Tryd.prog 23 #[.pointer (some ⟨b.X, 0, none⟩)] w fun e' w' => e' = .returned (svL (m.Z 0)) ∧ Below w.heap.size w w' := by
  obtain ⟨col, h1, _⟩ := h.next
  exact touched_yes h1
theorem xb_mark (h : XB w0 w b k q m R) : Calls Tryd.prog 16 #[.pointer (some ⟨b.T, 0, none⟩)] w fun e w' => ∃ q' x, e = .returned (.int .i64 x) ∧ IMark b k q' m x ∧ XB w0 w b k q' m R ∧ Hist q q' ∧ w = w' := by
  obtain ⟨h0, col, h1, h2⟩ := h
  exact (is_mark h1).mono fun e w' ⟨q', x, he, hM, hS, hh, hw⟩ => ⟨q', x, he, hM, ⟨h0, col, hS, h2⟩, hh, hw⟩
theorem xb_back (h : XB w0 w b k q m R) (hk : k ≤ 1000000000) {x : Int} (hx : IMark b n q m' x) (hg : IGood b.abs m') : Calls Tryd.prog 17 #[.pointer (some ⟨b.T, 0, none⟩), .int .i64 x] w fun e w' => e = .returned (.int .i64 0) ∧ XB w0 w' b n q m' R := by
  obtain ⟨col, h1, h2⟩ := h.next
  exact (is_back h1 hk hx).mono fun e w' ⟨he, hN⟩ => ⟨he, h2 _ _ _ _ hN hg⟩
end
/-- Sets alike, as the program compares them. -/
@[go_sem] theorem eq_set (a b c d x y z u : Int) (w : World) : (Op.equalIn 10000 48 (.agg #[.int .u64 a, .int .u64 b, .int .u64 c, .int .u64 d]) (.agg #[.int .u64 x, .int .u64 y, .int .u64 z, .int .u64 u])).run Tryd.prog w = .ok (a == x && (b == y && (c == z && d == u))) w := by
  have u3 := Tryd.underlying46
  have a3 := Tryd.isAgg46
  have z3 := Tryd.sizeOf46
  rw [show (10000 : Nat) = 9999 + 1 from rfl, Op.equalIn]
  simp only [Sem.run_bind, run_underlying Tryd.underlying48, Result.andThen_ok]
  simp only [Std.Legacy.Range.forIn_eq_forIn_range', Std.Legacy.Range.size, Nat.sub_zero, Nat.add_sub_cancel, Nat.div_one, List.range'_succ, List.range'_zero, List.forIn_cons, List.forIn_nil]
  go_simp
  by_cases h1 : a = x <;> by_cases h2 : b = y <;> by_cases h3 : c = z <;> by_cases h4 : d = u <;> simp [h1, h2, h3, h4]
end Go.Proofs.YtcgadmeagbcbnaaDoor
