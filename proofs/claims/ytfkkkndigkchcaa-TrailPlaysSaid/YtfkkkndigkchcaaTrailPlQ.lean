/- TrailPlays: the trail and the document's, each with its cells and changes, and the act's block. No condition. -/
import Derived.Test.YtfkkkndigkchcaaTrailPlA
import Derived.Test.YtfkkkndigkchcaaTrailV
namespace Go.Proofs.Ytfkkkndigkchcaa
open Go.RowKit
attribute [local irreducible] Calls

/-- The trail's cells and changes ts, the document's rs; the act xs in the block X. -/
def QQ (w0 w : World) (T R X : Nat) (xs : List Value) (ts rs : List Int × List (Int × Int)) : Prop :=
  ∃ col B cap vals L, PL 0 w0 w col T R B cap ts vals L ∧ Box6 w col X 28 xs ∧ vals.length = rs.2.length + 1 ∧ ∀ m, m ≤ rs.2.length → L m = was rs.1 rs.2 m
section
variable {w0 w w' : World} {T R X : Nat} {xs : List Value} {ts rs : List Int × List (Int × Int)}
theorem QQ.bel (h : QQ w0 w T R X xs ts rs) : Below w0.heap.size w0 w := by obtain ⟨_, _, _, _, _, h, _⟩ := h; exact h.bel
theorem QQ.box (h : QQ w0 w T R X xs ts rs) : Arr w X 28 xs := by obtain ⟨_, _, _, _, _, _, h, _⟩ := h; exact h.1
theorem QQ.below (h : QQ w0 w T R X xs ts rs) (hb : Below w.heap.size w w') : QQ w0 w' T R X xs ts rs := by
  obtain ⟨col, B, cap, vals, L, h1, h2, h3⟩ := h
  exact ⟨_, B, cap, vals, L, h1.made 0 hb, h2.keep (Keep6.made col 0 hb), h3⟩
theorem QQ.now {L : Nat → List Int} (h : ∀ m, m ≤ rs.2.length → L m = was rs.1 rs.2 m) : L rs.2.length = rs.1 := (h _ (Nat.le_refl _)).trans (was_last _ _)
theorem QQ.tr (h : QQ w0 w T R X xs ts rs) : ∃ O, TrS w0 w T O ts.1 ts.2 ∧ ∀ w' ts', TrN w0 w w' T O ts'.1 ts'.2 → QQ w0 w' T R X xs ts' rs := by
  obtain ⟨col, B, cap, vals, L, h1, h2, h3⟩ := h
  obtain ⟨O, hO, hS⟩ := h1.t (by decide)
  exact ⟨O, hS, fun w' ts' hn => ⟨_, B, cap, vals, L, h1.onT hO hS hn, h2.keep (Keep6.moved hn.mv (fun k hk _ => hO k hk) (by decide)), h3⟩⟩
theorem q_talloc (h : QQ w0 w T R X xs ts rs) (n : Int) (hn : canA ts.1 n) (hl : ts.2.length ≤ 1000000) : Calls Try.prog 20 #[.pointer (some ⟨T, 0, none⟩), .int .i64 n] w fun e w' => e = .returned (.int .i64 ts.1.length) ∧ QQ w0 w' T R X xs (ts.1 ++ List.replicate n.toNat 0, ts.2 ++ [((-1 : Int), n)]) rs := by
  obtain ⟨O, hS, hN⟩ := h.tr
  exact (tr_alloc hS n hn (by omega)).mono fun e w' ⟨he, hn⟩ => ⟨he, hN w' (_, _) hn⟩
theorem q_talloc_no (h : QQ w0 w T R X xs ts rs) (n : Int) (hn : ¬ canA ts.1 n) : Calls Try.prog 20 #[.pointer (some ⟨T, 0, none⟩), .int .i64 n] w fun e w' => e = .returned (.int .i64 (-1)) ∧ w = w' := by
  obtain ⟨O, hS, hN⟩ := h.tr
  exact tr_alloc_no hS n hn
theorem q_tset (h : QQ w0 w T R X xs ts rs) (i v : Int) (hl : ts.2.length ≤ 1000000) : Calls Try.prog 22 #[.pointer (some ⟨T, 0, none⟩), .int .i64 i, .int .i64 v] w fun e w' => e = .returned (.tuple #[]) ∧ QQ w0 w' T R X xs (setC ts.1 i v, setH ts.1 ts.2 i v) rs := by
  obtain ⟨O, hS, hN⟩ := h.tr
  exact (tr_set hS i v (by omega)).mono fun e w' ⟨he, hn⟩ => ⟨he, hN w' (_, _) hn⟩
theorem q_tback (h : QQ w0 w T R X xs ts rs) (m : Nat) (hm : m ≤ ts.2.length) (hl : ts.2.length ≤ 1000000) : Calls Try.prog 24 #[.pointer (some ⟨T, 0, none⟩), .int .i64 m] w fun e w' => e = .returned (.int .i64 0) ∧ QQ w0 w' T R X xs (was ts.1 ts.2 m, ts.2.take m) rs := by
  obtain ⟨O, hS, hN⟩ := h.tr
  exact (tr_back hS m hm (by omega)).mono fun e w' ⟨he, hn⟩ => ⟨he, hN w' (_, _) hn⟩
theorem q_tback_no (h : QQ w0 w T R X xs ts rs) (m : Int) (hm : ¬ (0 ≤ m ∧ m ≤ ts.2.length)) : Calls Try.prog 24 #[.pointer (some ⟨T, 0, none⟩), .int .i64 m] w fun e w' => e = .returned (.int .i64 2) ∧ Below w.heap.size w w' := by
  obtain ⟨O, hS, hN⟩ := h.tr
  exact tr_back_no hS m hm
theorem q_tget (h : QQ w0 w T R X xs ts rs) (i : Int) : Calls Try.prog 30 #[.pointer (some ⟨T, 0, none⟩), .int .i64 i] w fun e w' => e = .returned (.int .i64 (getZ ts.1 i)) ∧ w = w' := by
  obtain ⟨O, hS, hN⟩ := h.tr
  exact tr_get hS i
theorem q_tlen (h : QQ w0 w T R X xs ts rs) : Calls Try.prog 28 #[.pointer (some ⟨T, 0, none⟩)] w fun e w' => e = .returned (.int .i64 ts.1.length) ∧ w = w' := by
  obtain ⟨O, hS, hN⟩ := h.tr
  exact tr_len hS
theorem q_tmark (h : QQ w0 w T R X xs ts rs) : Calls Try.prog 26 #[.pointer (some ⟨T, 0, none⟩)] w fun e w' => e = .returned (.int .i64 ts.2.length) ∧ w = w' := by
  obtain ⟨O, hS, hN⟩ := h.tr
  exact tr_mark hS
theorem QQ.tlen (h : QQ w0 w T R X xs ts rs) : ts.1.length ≤ 1048576 := by
  obtain ⟨O, hS, hN⟩ := h.tr
  exact hS.len
/-! The document's. -/
theorem q_rmark (h : QQ w0 w T R X xs ts rs) (hl : rs.2.length ≤ 1000000) : Calls Try.prog 27 #[.pointer (some ⟨R, 0, none⟩)] w fun e w' => e = .returned (.int .i64 rs.2.length) ∧ w = w' := by
  obtain ⟨col, B, cap, vals, L, h1, h2, h3, h4⟩ := h
  exact rmark_any h1 h3 hl
theorem q_rget (h : QQ w0 w T R X xs ts rs) (hl : rs.2.length ≤ 1000000) (i : Int) : Calls Try.prog 31 #[.pointer (some ⟨R, 0, none⟩), .int .i64 i] w fun e w' => e = .returned (.int .i64 (getZ rs.1 i)) ∧ Below w.heap.size w w' := by
  obtain ⟨col, B, cap, vals, L, h1, h2, h3, h4⟩ := h
  refine (rget_any h1 h3 hl i).mono fun e w' ⟨he, nq, hw⟩ => ⟨?_, hw ▸ bel_drewN (Below.refl _ _) nq⟩
  rw [he, QQ.now h4]
theorem q_rnow (h : QQ w0 w T R X xs ts rs) (hl : rs.2.length ≤ 1000000) : ∃ g c, ∀ u : World, Below w.heap.size w u → Calls Try.prog 29 #[.pointer (some ⟨R, 0, none⟩)] u fun e w' => e = .returned (.slice (some ⟨g, 0, none⟩) rs.1.length c) ∧ Below u.heap.size u w' := by
  obtain ⟨col, B, cap, vals, L, h1, h2, h3, h4⟩ := h
  obtain ⟨g, c, hv, hr⟩ := h1.ex (j := rs.2.length) (by omega)
  rw [QQ.now h4] at hv
  refine ⟨g, c, fun u hb => (rnow_any (h1.made 0 hb) h3 hl).mono fun e w' ⟨g', c', he, hv', _, nq, hw⟩ => ⟨?_, hw ▸ bel_drewN (Below.refl _ _) nq⟩⟩
  rw [he, ← QQ.now h4]
  rw [QQ.now h4] at hv' ⊢
  rw [hv] at hv'
  injection hv' with e1
  rw [e1]
theorem q_ralloc (h : QQ w0 w T R X xs ts rs) (n : Int) (hn : canA rs.1 n) (hl : rs.2.length ≤ 1000000) : Calls Try.prog 21 #[.pointer (some ⟨R, 0, none⟩), .int .i64 n] w fun e w' => e = .returned (.int .i64 rs.1.length) ∧ QQ w0 w' T R X xs ts (rs.1 ++ List.replicate n.toNat 0, rs.2 ++ [((-1 : Int), n)]) := by
  obtain ⟨col, B, cap, vals, L, h1, h2, h3, h4⟩ := h
  obtain ⟨k, rfl⟩ := Int.eq_ofNat_of_zero_le (show 0 ≤ n by have := hn.1; omega)
  have hk1 : 0 < k := by have := hn.1; omega
  have hk2 : rs.1.length + k ≤ 1048576 := by have := hn.2; omega
  have hnow := QQ.now h4
  refine (ralloc_any (L' := fun m => was (rs.1 ++ List.replicate k 0) (rs.2 ++ [((-1 : Int), (k : Int))]) m) h1 h3 hl k hk1 (by rw [hnow]; exact hk2) (fun m hm => ?_) ?_).mono ?_
  · rw [was_alloc _ _ _ _ (by omega)]; exact (h4 m (by omega)).symm
  · rw [hnow]
    have := was_last (rs.1 ++ List.replicate k 0) (rs.2 ++ [((-1 : Int), (k : Int))])
    rw [List.length_append, List.length_singleton] at this
    exact this
  · rintro e w' ⟨he, B', cap', col', v1, p, k6⟩
    rw [hnow] at he
    exact ⟨he, col', B', cap', _, _, p, h2.keep k6, by simp [h3], fun m _ => by rw [Int.toNat_natCast]⟩
theorem q_ralloc_no (h : QQ w0 w T R X xs ts rs) (n : Int) (hn : ¬ canA rs.1 n) (hl : rs.2.length ≤ 1000000) (hc : rs.1.length ≤ 1048576) : Calls Try.prog 21 #[.pointer (some ⟨R, 0, none⟩), .int .i64 n] w fun e w' => e = .returned (.int .i64 (-1)) ∧ Below w.heap.size w w' := by
  obtain ⟨col, B, cap, vals, L, h1, h2, h3, h4⟩ := h
  have hnow := QQ.now h4
  exact (ralloc_no h1 h3 hl n (by rw [hnow]; exact hc) (by rw [hnow]; exact hn)).mono fun e w' ⟨he, nq, hw⟩ => ⟨he, hw ▸ bel_drewN (Below.refl _ _) nq⟩
theorem q_rset (h : QQ w0 w T R X xs ts rs) (i v : Int) (hl : rs.2.length ≤ 1000000) (hc : rs.1.length ≤ 1048576) : Calls Try.prog 23 #[.pointer (some ⟨R, 0, none⟩), .int .i64 i, .int .i64 v] w fun e w' => e = .returned (.tuple #[]) ∧ QQ w0 w' T R X xs ts (setC rs.1 i v, setH rs.1 rs.2 i v) := by
  have hq := h
  obtain ⟨col, B, cap, vals, L, h1, h2, h3, h4⟩ := h
  have hnow := QQ.now h4
  by_cases hi : 0 ≤ i ∧ i < rs.1.length
  · obtain ⟨j, rfl⟩ := Int.eq_ofNat_of_zero_le hi.1
    have hj : j < rs.1.length := by omega
    have hg : getZ rs.1 (j : Int) = rs.1.getD j 0 := getZ_in hj
    have e1 : setC rs.1 (j : Int) v = rs.1.set j v := by unfold setC; rw [if_pos hi, Int.toNat_natCast]
    by_cases hv : rs.1.getD j 0 = v
    · have e3 : rs.1.set j v = rs.1 := by
        rw [← hv]
        apply List.ext_getElem (by simp)
        intro k h1 h2
        by_cases e : j = k
        · subst e; simp [List.getD_eq_getElem?_getD, hj]
        · simp [e]
      rw [setH_eq (by rw [hg]; exact hv), e1, e3]
      exact (rset_same h1 h3 hl j v (by rw [hnow]; exact hj) (by rw [hnow]; exact hv)).mono fun e w' ⟨he, nq, hw⟩ => ⟨he, by subst hw; exact hq.below (bel_drewN (Below.refl _ _) nq)⟩
    · have e2 : setH rs.1 rs.2 (j : Int) v = rs.2 ++ [((j : Int), rs.1.getD j 0)] := by unfold setH; rw [if_pos ⟨hi, by rw [hg]; exact hv⟩, hg]
      rw [e1, e2]
      refine (rset_any (L' := fun m => was (rs.1.set j v) (rs.2 ++ [((j : Int), rs.1.getD j 0)]) m) h1 h3 hl j v (by rw [hnow]; exact hj) (by rw [hnow]; exact hv) (by rw [hnow]; exact hc) (fun m hm => ?_) ?_).mono ?_
      · rw [was_set _ _ hj _ _ (by omega)]; exact (h4 m (by omega)).symm
      · rw [hnow]
        have := was_last (rs.1.set j v) (rs.2 ++ [((j : Int), rs.1.getD j 0)])
        rw [List.length_append, List.length_singleton] at this
        exact this
      · rintro e w' ⟨he, B', cap', col', v1, p, k6⟩
        exact ⟨he, col', B', cap', _, _, p, h2.keep k6, by simp [h3], fun m _ => rfl⟩
  · have e1 : setC rs.1 i v = rs.1 := if_neg hi
    rw [setH_out hi, e1]
    exact (rset_out h1 h3 hl i v (by rw [hnow]; exact hi)).mono fun e w' ⟨he, nq, hw⟩ => ⟨he, by subst hw; exact hq.below (bel_drewN (Below.refl _ _) nq)⟩
theorem q_rback (h : QQ w0 w T R X xs ts rs) (m : Nat) (hm : m ≤ rs.2.length) (hl : rs.2.length ≤ 1000000) : Calls Try.prog 25 #[.pointer (some ⟨R, 0, none⟩), .int .i64 m] w fun e w' => e = .returned (.int .i64 0) ∧ QQ w0 w' T R X xs ts (was rs.1 rs.2 m, rs.2.take m) := by
  obtain ⟨col, B, cap, vals, L, h1, h2, h3, h4⟩ := h
  refine (rback_any h1 h3 hl m hm).mono ?_
  rintro e w' ⟨he, col', p, k6⟩
  have hlt : (rs.2.take m).length = m := by rw [List.length_take]; omega
  refine ⟨he, col', B, cap, _, L, p, h2.keep k6, ?_, fun k hk => ?_⟩
  · show (vals.take (m + 1)).length = (rs.2.take m).length + 1
    rw [hlt, List.length_take]; omega
  · have hk' : k ≤ m := by have : k ≤ (rs.2.take m).length := hk; omega
    show L k = was (was rs.1 rs.2 m) (rs.2.take m) k
    rw [was_back _ _ _ _ hk']; exact h4 k (by omega)
theorem q_rback_no (h : QQ w0 w T R X xs ts rs) (m : Int) (hm : ¬ (0 ≤ m ∧ m ≤ rs.2.length)) (hl : rs.2.length ≤ 1000000) : Calls Try.prog 25 #[.pointer (some ⟨R, 0, none⟩), .int .i64 m] w fun e w' => e = .returned (.int .i64 2) ∧ w = w' := by
  obtain ⟨col, B, cap, vals, L, h1, h2, h3, h4⟩ := h
  exact rback_no h1 h3 hl m hm
/-- Between two acts. -/
def QN (w0 w : World) (T R : Nat) (ts rs : List Int × List (Int × Int)) : Prop :=
  ∃ col B cap vals L, PL 0 w0 w col T R B cap ts vals L ∧ vals.length = rs.2.length + 1 ∧ ∀ m, m ≤ rs.2.length → L m = was rs.1 rs.2 m
theorem QQ.rest (h : QQ w0 w T R X xs ts rs) : QN w0 w T R ts rs := by
  obtain ⟨col, B, cap, vals, L, h1, h2, h3⟩ := h
  exact ⟨col, B, cap, vals, L, h1, h3⟩
theorem QN.bel (h : QN w0 w T R ts rs) : Below w0.heap.size w0 w := by obtain ⟨_, _, _, _, _, h, _⟩ := h; exact h.bel
/-- A new act. -/
theorem QN.act {X' : Nat} {xs' : List Value} (h : QN w0 w T R ts rs) (hb : Below w.heap.size w w') (ha : Arr w' X' 28 xs') (hX : w.heap.size ≤ X') : QQ w0 w' T R X' xs' ts rs := by
  obtain ⟨col, B, cap, vals, L, h1, h3⟩ := h
  exact ⟨_, B, cap, vals, L, h1.made 6 hb, ⟨ha, recol_ge hX⟩, h3⟩
end
end Go.Proofs.Ytfkkkndigkchcaa
