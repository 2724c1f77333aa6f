/- The plain law of orders by draws: what Perm makes, and what of it is told again. No condition. -/
import Derived.Handy
namespace Go.Proofs.Ytcehclagipdleaa

/-- Two places exchanged. -/
def swp (l : List Int) (i k : Nat) : List Int := (l.set i (l.getD k 0)).set k (l.getD i 0)
theorem swp_len (l : List Int) (i k : Nat) : (swp l i k).length = l.length := by simp [swp]
/-- The place that a draw takes, of i + 1. -/
def kOf (d : Int) (i : Nat) : Nat := (d % ((i : Int) + 1)).toNat
theorem kOf_le (d : Int) (i : Nat) : kOf d i ≤ i := by
  unfold kOf
  have h1 := Int.emod_lt_of_pos d (b := (i : Int) + 1) (by omega)
  have h2 := Int.emod_nonneg d (b := (i : Int) + 1) (by omega)
  omega
theorem kOf_cast (d : Int) (i : Nat) : ((kOf d i : Nat) : Int) = d % ((i : Int) + 1) := by
  unfold kOf
  have h2 := Int.emod_nonneg d (b := (i : Int) + 1) (by omega)
  omega
theorem kOf_self (k i : Nat) (h : k ≤ i) : kOf (k : Int) i = k := by
  unfold kOf
  rw [Int.emod_eq_of_lt (by omega) (by omega)]; omega
theorem kOf_round (k i : Nat) (c : Int) (h : k ≤ i) : kOf ((k : Int) - ((i : Int) + 1) * c) i = k := by
  unfold kOf
  rw [Int.sub_mul_emod_self_left, Int.emod_eq_of_lt (by omega) (by omega)]; omega
/-- From place i down to 1. -/
def prm : Nat → List Int → List Int → List Int
  | 0, l, _ => l
  | i + 1, l, ds => prm i (swp l (i + 1) (kOf (ds.headD 0) (i + 1))) ds.tail
theorem prm_len : ∀ i l ds, (prm i l ds).length = l.length := by
  intro i
  induction i with
  | zero => intro l ds; rfl
  | succ i ih => intro l ds; simp [prm, ih, swp_len]
/-- The places in their own order. -/
def ids (n : Nat) : List Int := (List.range n).map Int.ofNat
theorem ids_len (n : Nat) : (ids n).length = n := by simp [ids]
theorem ids_get (n k : Nat) (h : k < n) : (ids n).getD k 0 = (k : Int) := by simp [ids, List.getD_eq_getElem?_getD, h]
theorem ids_succ (n : Nat) : ids (n + 1) = ids n ++ [(n : Int)] := by simp [ids, List.range_succ]
/-- What Perm makes. -/
def permOf (n : Int) (ds : List Int) : List Int := if 1 ≤ n ∧ n ≤ 4096 then prm (n.toNat - 1) (ids n.toNat) ds else []
/-- How many draws it takes. -/
def usedOf (n : Int) (ds : List Int) : Nat := if 1 ≤ n ∧ n ≤ 4096 then min (n.toNat - 1) ds.length else 0

theorem getD_set (l : List Int) (i j : Nat) (v : Int) : (l.set i v).getD j 0 = if i = j ∧ j < l.length then v else l.getD j 0 := by
  simp only [List.getD_eq_getElem?_getD, List.getElem?_set]
  by_cases h : i = j
  · subst h
    by_cases h2 : i < l.length
    · simp [h2]
    · simp [h2]
  · simp [h]
theorem swp_get (l : List Int) (i k j : Nat) (hi : i < l.length) (hk : k < l.length) : (swp l i k).getD j 0 = if j = k then l.getD i 0 else if j = i then l.getD k 0 else l.getD j 0 := by
  unfold swp
  rw [getD_set, getD_set]
  simp only [List.length_set]
  by_cases h1 : k = j
  · subst h1; simp [hk]
  · by_cases h2 : i = j
    · subst h2; simp [h1, hi, Ne.symm h1]
    · simp [h1, h2, Ne.symm h1, Ne.symm h2]
theorem list_ext_getD {a b : List Int} (hl : a.length = b.length) (h : ∀ j, j < a.length → a.getD j 0 = b.getD j 0) : a = b := by
  apply List.ext_getElem hl
  intro i h1 h2
  have := h i h1
  simpa [List.getD_eq_getElem?_getD, h1, h2] using this

/-- All numbers below the length, each once. -/
def Tot (l : List Int) : Prop := (∀ j, j < l.length → 0 ≤ l.getD j 0 ∧ l.getD j 0 < l.length) ∧ (∀ i j, i < l.length → j < l.length → l.getD i 0 = l.getD j 0 → i = j)
theorem tot_ids (n : Nat) : Tot (ids n) := by
  refine ⟨fun j h => ?_, fun i j hi hj e => ?_⟩
  · rw [ids_len] at h ⊢; rw [ids_get n j h]; omega
  · rw [ids_len] at hi hj; rw [ids_get n i hi, ids_get n j hj] at e; omega
theorem tot_swp {l : List Int} (h : Tot l) {i k : Nat} (hi : i < l.length) (hk : k < l.length) : Tot (swp l i k) := by
  refine ⟨fun j hj => ?_, fun a b ha hb e => ?_⟩
  · rw [swp_len] at hj ⊢
    rw [swp_get l i k j hi hk]
    split
    · exact h.1 i hi
    · split
      · exact h.1 k hk
      · exact h.1 j hj
  · rw [swp_len] at ha hb
    rw [swp_get l i k a hi hk, swp_get l i k b hi hk] at e
    have hh := h.2
    by_cases a1 : a = k <;> by_cases b1 : b = k <;> by_cases a2 : a = i <;> by_cases b2 : b = i <;> simp only [a1, b1, a2, b2, if_true, if_false] at e <;> first | omega | skip
    all_goals first
      | (have := hh _ _ hi hb e; omega) | (have := hh _ _ hk hb e; omega) | (have := hh _ _ ha hi e; omega) | (have := hh _ _ ha hk e; omega) | (have := hh _ _ ha hb e; omega) | (have := hh _ _ hi hk e; omega) | (have := hh _ _ hk hi e; omega) | skip
    all_goals (repeat (first | (split at e))) <;> first | omega | (have := hh _ _ hi hb e; omega) | (have := hh _ _ hk hb e; omega) | (have := hh _ _ ha hi e; omega) | (have := hh _ _ ha hk e; omega) | (have := hh _ _ ha hb e; omega) | (have := hh _ _ hi hk e; omega) | (have := hh _ _ hk hi e; omega)
theorem tot_prm : ∀ i l ds, Tot l → i < l.length → Tot (prm i l ds) := by
  intro i
  induction i with
  | zero => intro l ds h _; exact h
  | succ i ih =>
    intro l ds h hi
    refine ih _ _ (tot_swp h hi ?_) (by rw [swp_len]; omega)
    have := kOf_le (ds.headD 0) (i + 1)
    omega
/-- What stands above place i stays. -/
theorem prm_above : ∀ i l ds j, i < j → (prm i l ds).getD j 0 = if i < l.length then l.getD j 0 else (prm i l ds).getD j 0 := by
  intro i
  induction i with
  | zero => intro l ds j _; simp [prm]
  | succ i ih =>
    intro l ds j hj
    split
    case isFalse => rfl
    rename_i hi
    have hk := kOf_le (ds.headD 0) (i + 1)
    have := ih (swp l (i + 1) (kOf (ds.headD 0) (i + 1))) ds.tail j (by omega)
    rw [if_pos (by rw [swp_len]; omega)] at this
    rw [prm, this, swp_get _ _ _ _ hi (by omega), if_neg (by omega), if_neg (by omega)]
/-- At place i stands what stood at the drawn place. -/
theorem prm_at (i : Nat) (l ds : List Int) (hi : i + 1 < l.length) : (prm (i + 1) l ds).getD (i + 1) 0 = l.getD (kOf (ds.headD 0) (i + 1)) 0 := by
  have hk := kOf_le (ds.headD 0) (i + 1)
  have := prm_above i (swp l (i + 1) (kOf (ds.headD 0) (i + 1))) ds.tail (i + 1) (by omega)
  rw [if_pos (by rw [swp_len]; omega)] at this
  rw [prm, this, swp_get _ _ _ _ hi (by omega)]
  split
  · rename_i h; rw [← h]
  · simp

/-- The places that are drawn. -/
def ksOf : Nat → List Int → List Int
  | 0, _ => []
  | i + 1, ds => (kOf (ds.headD 0) (i + 1) : Int) :: ksOf i ds.tail
theorem ksOf_len : ∀ i ds, (ksOf i ds).length = i := by
  intro i
  induction i with
  | zero => intro ds; rfl
  | succ i ih => intro ds; simp [ksOf, ih]
theorem prm_ks : ∀ i l ds, prm i l (ksOf i ds) = prm i l ds := by
  intro i
  induction i with
  | zero => intro l ds; rfl
  | succ i ih =>
    intro l ds
    simp only [ksOf, prm, List.headD_cons, List.tail_cons]
    rw [kOf_self _ _ (kOf_le _ _), ih]
/-- One that is rounds more draws the same. f: how many rounds, by its number from the first on. -/
def moreOf (f : Nat → Int) : Nat → Nat → List Int → List Int
  | _, _, [] => []
  | m, i, k :: ks => (k - ((m : Int) - i) * f i) :: moreOf f m (i + 1) ks
theorem moreOf_len (f : Nat → Int) (m : Nat) : ∀ ks i, (moreOf f m i ks).length = ks.length := by
  intro ks
  induction ks with
  | nil => intro i; rfl
  | cons k ks ih => intro i; simp [moreOf, ih]
theorem moreOf_get (f : Nat → Int) (m : Nat) : ∀ ks i j, j < ks.length → (moreOf f m i ks).getD j 0 = ks.getD j 0 - ((m : Int) - (i + j)) * f (i + j) := by
  intro ks
  induction ks with
  | nil => intro i j h; simp at h
  | cons k ks ih =>
    intro i j h
    cases j with
    | zero => simp [moreOf]
    | succ j =>
      have := ih (i + 1) j (by simpa using h)
      simp only [moreOf, List.getD_cons_succ]
      rw [this, show i + 1 + j = i + (j + 1) from by omega]
      push_cast
      rw [show ((i : Int) + 1 + j) = i + (j + 1) from by omega]
theorem prm_more (f : Nat → Int) (m : Nat) : ∀ p i l ds, p + 1 + i = m → prm p l (moreOf f m i (ksOf p ds)) = prm p l ds := by
  intro p
  induction p with
  | zero => intro i l ds _; rfl
  | succ p ih =>
    intro i l ds h
    simp only [ksOf, moreOf, prm, List.headD_cons, List.tail_cons]
    rw [show ((m : Int) - i) = (((p + 1 : Nat) : Int) + 1) from by omega, kOf_round _ _ _ (kOf_le _ _), ih (i + 1) _ _ (by omega)]

/-- Turned. -/
def okT (n : Nat) : List Int → List Int → Bool
  | _, [] => true
  | seen, k :: r => decide (0 ≤ k ∧ k < n ∧ k ∉ seen) && okT n (seen ++ [k]) r
def turnOf (l perm : List Int) : List Int := if l.length = perm.length ∧ okT l.length [] perm = true then perm.map (fun k => l.getD k.toNat 0) else []

theorem okT_iff (n : Nat) : ∀ (r s : List Int), s.Nodup → (okT n s r = true ↔ (∀ k ∈ r, 0 ≤ k ∧ k < (n : Int)) ∧ (s ++ r).Nodup) := by
  intro r
  induction r with
  | nil => intro s hs; simp [okT, hs]
  | cons k r ih =>
    intro s hs
    simp only [okT, Bool.and_eq_true, decide_eq_true_eq, List.mem_cons, forall_eq_or_imp]
    constructor
    · rintro ⟨⟨h1, h2, h3⟩, h4⟩
      have hn : (s ++ [k]).Nodup := by
        rw [List.nodup_append]
        exact ⟨hs, by simp, fun a ha b hb e => h3 (by simp at hb; rw [← hb, ← e]; exact ha)⟩
      obtain ⟨h5, h6⟩ := (ih _ hn).1 h4
      exact ⟨⟨⟨h1, h2⟩, h5⟩, by simpa using h6⟩
    · rintro ⟨⟨⟨h1, h2⟩, h5⟩, h6⟩
      have h7 : (s ++ [k] ++ r).Nodup := by simpa using h6
      have hn : (s ++ [k]).Nodup := (List.nodup_append.1 h7).1
      refine ⟨⟨h1, h2, fun h => ?_⟩, (ih _ hn).2 ⟨h5, h7⟩⟩
      exact (List.nodup_append.1 hn).2.2 k h k (by simp) rfl

theorem ids_nodup (n : Nat) : (ids n).Nodup := by
  induction n with
  | zero => simp [ids]
  | succ n ih =>
    rw [ids_succ, List.nodup_append]
    refine ⟨ih, by simp, fun a ha b hb e => ?_⟩
    simp [ids] at ha hb
    obtain ⟨j, hj, rfl⟩ := ha
    rw [hb] at e
    have : (j : Int) = n := e
    omega
theorem ids_mem (n : Nat) (k : Int) : k ∈ ids n ↔ 0 ≤ k ∧ k < n := by
  simp only [ids, List.mem_map, List.mem_range]
  constructor
  · rintro ⟨j, hj, rfl⟩; exact ⟨Int.natCast_nonneg j, by have : (Int.ofNat j) = (j : Int) := rfl; omega⟩
  · rintro ⟨h1, h2⟩; exact ⟨k.toNat, by omega, by have : (Int.ofNat k.toNat) = (k.toNat : Int) := rfl; omega⟩
theorem pig_le : ∀ (n : Nat) (l : List Int), l.Nodup → (∀ k ∈ l, 0 ≤ k ∧ k < (n : Int)) → l.length ≤ n := by
  intro n
  induction n with
  | zero =>
    intro l _ h
    cases l with
    | nil => simp
    | cons k r => have := h k (by simp); omega
  | succ n ih =>
    intro l hn h
    by_cases hm : (n : Int) ∈ l
    · have h1 := List.length_erase_of_mem hm
      have h2 := ih (l.erase n) (hn.erase _) (fun k hk => by
        have h3 := (hn.mem_erase_iff).1 hk
        have := h k h3.2
        have h4 := h3.1
        omega)
      omega
    · have := ih l hn (fun k hk => by
        have h1 := h k hk
        have : k ≠ n := fun e => hm (e ▸ hk)
        omega)
      omega
theorem pig_perm : ∀ (n : Nat) (l : List Int), l.length = n → (∀ k ∈ ids n, k ∈ l) → l.Perm (ids n) := by
  intro n
  induction n with
  | zero => intro l h _; rw [List.eq_nil_of_length_eq_zero h]; exact List.Perm.refl _
  | succ n ih =>
    intro l hl h
    have hm : (n : Int) ∈ l := h n (by rw [ids_succ]; simp)
    have h1 := List.perm_cons_erase hm
    have h2 := ih (l.erase n) (by rw [List.length_erase_of_mem hm]; omega) (fun k hk => by
      refine (List.mem_erase_of_ne (fun e => ?_)).2 (h k (by rw [ids_succ]; simp [hk]))
      rw [e, ids_mem] at hk; omega)
    rw [ids_succ]
    exact h1.trans ((h2.cons _).trans (by simpa using (List.perm_append_comm (l₁ := [(n : Int)]) (l₂ := ids n))))
theorem pig_all {n : Nat} {l : List Int} (hl : l.length = n) (hn : l.Nodup) (h : ∀ k ∈ l, 0 ≤ k ∧ k < (n : Int)) : ∀ k ∈ ids n, k ∈ l := by
  intro k hk
  rw [ids_mem] at hk
  refine Classical.byContradiction fun hno => ?_
  have := pig_le n (k :: l) (List.nodup_cons.2 ⟨hno, hn⟩) (fun j hj => by
    rcases List.mem_cons.1 hj with rfl | hj
    · exact hk
    · exact h j hj)
  simp at this; omega
/-- The document's test: each number below the length stands there once. -/
theorem okT_count {n : Nat} {l : List Int} (hl : l.length = n) : okT n [] l = true ↔ ∀ i, i < n → l.count (i : Int) = 1 := by
  rw [okT_iff n l [] (by simp)]
  simp only [List.nil_append]
  constructor
  · rintro ⟨h1, h2⟩ i hi
    have hm := pig_all hl h2 h1 i ((ids_mem n i).2 ⟨by omega, by omega⟩)
    have h3 := List.nodup_iff_count.1 h2 (i : Int)
    have h4 := List.count_pos_iff.2 hm
    omega
  · intro h
    have hp := pig_perm n l hl (fun k hk => by
      rw [ids_mem] at hk
      have := h k.toNat (by omega)
      rw [show ((k.toNat : Nat) : Int) = k from by omega] at this
      exact List.count_pos_iff.1 (by omega))
    exact ⟨fun k hk => (ids_mem n k).1 (hp.mem_iff.1 hk), hp.nodup_iff.2 (ids_nodup n)⟩
theorem tot_okT {l : List Int} (h : Tot l) : okT l.length [] l = true := by
  rw [okT_iff _ _ _ (by simp)]
  refine ⟨fun k hk => ?_, ?_⟩
  · obtain ⟨i, hi, rfl⟩ := List.getElem_of_mem hk
    have := h.1 i hi
    simpa [List.getD_eq_getElem?_getD, hi] using this
  · simp only [List.nil_append]
    rw [List.nodup_iff_pairwise_ne, List.pairwise_iff_getElem]
    intro i j hi hj hij e
    have := h.2 i j hi hj (by simp [List.getD_eq_getElem?_getD, hi, hj, e])
    omega
end Go.Proofs.Ytcehclagipdleaa
