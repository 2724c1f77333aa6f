/- The plain law of what is told again. No condition. -/
import Derived.Test.YtcehclagipdleaaDealI
namespace Go.Proofs.Ytcehclagipdleaa

theorem moreOf_snoc (f : Nat → Int) (m : Nat) (k : Int) : ∀ ks i, moreOf f m i (ks ++ [k]) = moreOf f m i ks ++ [k - ((m : Int) - ((i + ks.length : Nat) : Int)) * f (i + ks.length)] := by
  intro ks
  induction ks with
  | nil => intro i; simp [moreOf]
  | cons x r ih =>
    intro i
    simp only [List.cons_append, moreOf, ih, List.length_cons]
    rw [show i + 1 + r.length = i + (r.length + 1) from by omega]
/-- How many rounds more. -/
def fR (i : Nat) : Int := 1 + ((i % 3 : Nat) : Int)
theorem ksOf_succ (i : Nat) (ds : List Int) : ksOf (i + 1) ds = [(kOf (ds.headD 0) (i + 1) : Int)] ++ ksOf i ds.tail := rfl
/-- The only place at which stands what will stand at place i. -/
theorem told_at {i N : Nat} {l ds p : List Int} (h : prm (i + 1) l ds = p) (hi : i + 1 < l.length) (hN : l.length = N) (ht : Tot l) {j : Nat} (hj : j < N) : (l.getD j 0 = p.getD (i + 1) 0) ↔ j = kOf (ds.headD 0) (i + 1) := by
  have hk := kOf_le (ds.headD 0) (i + 1)
  rw [← h, prm_at i l ds hi]
  constructor
  · intro e
    exact ht.2 j _ (by omega) (by omega) e
  · intro e; rw [e]
theorem permOf_ks (N : Nat) (h1 : 1 ≤ N) (h2 : N ≤ 4096) (q : List Int) : permOf N (ksOf (N - 1) q) = permOf N q ∧ permOf N (moreOf fR N 0 (ksOf (N - 1) q)) = permOf N q := by
  have hc : (1 : Int) ≤ (N : Int) ∧ (N : Int) ≤ 4096 := by omega
  have e : ∀ ds, permOf N ds = prm (N - 1) (ids N) ds := fun ds => by unfold permOf; rw [if_pos hc]; rfl
  rw [e, e, e]
  exact ⟨prm_ks _ _ _, prm_more fR N (N - 1) 0 _ _ (by omega)⟩
/-- What the inner loop finds, below j. -/
def found (kk j : Nat) : Int := if kk < j then (kk : Int) else -1
theorem found_succ_eq (kk : Nat) : found kk (kk + 1) = (kk : Int) := by unfold found; rw [if_pos (by omega)]
theorem found_succ_ne {kk j : Nat} (h : j ≠ kk) : found kk (j + 1) = found kk j := by
  unfold found
  by_cases h1 : kk < j
  · rw [if_pos (by omega), if_pos h1]
  · rw [if_neg (by omega), if_neg h1]
theorem found_all {kk i : Nat} (h : kk ≤ i) : found kk (i + 1) = (kk : Int) := by unfold found; rw [if_pos (by omega)]
/-- No place twice. -/
theorem seen_no {p : List Int} (h : Tot p) {sn : List Bool} {i z : Nat} (hi : i < p.length) (hz : p.getD i 0 = (z : Int)) (hs : ∀ v, sn.getD v false = true → ∃ j, j < i ∧ p.getD j 0 = (v : Int)) : sn.getD z false = false := by
  cases e : sn.getD z false with
  | false => rfl
  | true =>
    obtain ⟨j, hj, e2⟩ := hs z e
    have := h.2 j i (by omega) hi (by rw [e2, hz])
    omega
theorem seen_set {p : List Int} {sn : List Bool} {i z : Nat} (hz : p.getD i 0 = (z : Int)) (hs : ∀ v, sn.getD v false = true → ∃ j, j < i ∧ p.getD j 0 = (v : Int)) : ∀ v, (sn.set z true).getD v false = true → ∃ j, j < i + 1 ∧ p.getD j 0 = (v : Int) := by
  intro v hv
  by_cases e : v = z
  · subst e; exact ⟨i, by omega, hz⟩
  · have : (sn.set z true).getD v false = sn.getD v false := by
      simp only [List.getD_eq_getElem?_getD, List.getElem?_set]
      rw [if_neg (fun h => e h.symm)]
    rw [this] at hv
    obtain ⟨j, hj, h⟩ := hs v hv
    exact ⟨j, by omega, h⟩
end Go.Proofs.Ytcehclagipdleaa
