/- The plain law of sets of places: four words of 64 bits. No condition. -/
import Derived.Test.YtcgadmeagbcbnaaDoorBase
import Derived.Lib.TrailingZeros
namespace Go.Proofs.YtcgadmeagbcbnaaDoor

/-- Four words. -/
def wfB (S : List Nat) : Prop := S.length = 4 ∧ ∀ k, S.getD k 0 < 2 ^ 64
def hasS (S : List Nat) (i : Nat) : Bool := (S.getD (i / 64) 0).testBit (i % 64)
def addB (S : List Nat) (i : Nat) : List Nat := S.set (i / 64) (S.getD (i / 64) 0 ||| 2 ^ (i % 64))
def notB (x : Nat) : Nat := 18446744073709551615 - x
def delB (S : List Nat) (i : Nat) : List Nat := S.set (i / 64) (S.getD (i / 64) 0 &&& notB (2 ^ (i % 64)))
def lstTo (S : List Nat) (n : Nat) : List Nat := (List.range n).filter (hasS S)
def lst (S : List Nat) : List Nat := lstTo S 256
def andB (S T : List Nat) : List Nat := List.zipWith (· &&& ·) S T
def orB (S T : List Nat) : List Nat := List.zipWith (· ||| ·) S T
def minusB (S T : List Nat) : List Nat := List.zipWith (fun a b => a &&& notB b) S T

theorem testBit_not (x i : Nat) (hx : x < 2 ^ 64) : (notB x).testBit i = (decide (i < 64) && !x.testBit i) := by
  have := Nat.testBit_two_pow_sub_succ hx i
  unfold notB
  rw [show 18446744073709551615 - x = 2 ^ 64 - (x + 1) by omega]
  exact this
theorem pow_lt64 (r : Nat) (h : r < 64) : 2 ^ r < 2 ^ 64 := Nat.pow_lt_pow_right (by omega) h
theorem getD_set (S : List Nat) (i j : Nat) (x : Nat) (hi : i < S.length) : (S.set i x).getD j 0 = if i = j then x else S.getD j 0 := by
  simp only [List.getD_eq_getElem?_getD, List.getElem?_set]
  by_cases h : i = j
  · subst h; simp [hi]
  · simp [h]
theorem notB_lt (x : Nat) : notB x < 2 ^ 64 := by unfold notB; omega
theorem wf_set {S : List Nat} (h : wfB S) (i x : Nat) (hx : x < 2 ^ 64) : wfB (S.set i x) := by
  refine ⟨by rw [List.length_set]; exact h.1, fun k => ?_⟩
  by_cases hi : i < S.length
  · rw [getD_set S i k x hi]; split
    · exact hx
    · exact h.2 k
  · rw [List.set_eq_of_length_le (by omega)]; exact h.2 k
theorem wf_add {S : List Nat} (h : wfB S) (i : Nat) : wfB (addB S i) := wf_set h _ _ (Nat.or_lt_two_pow (h.2 _) (pow_lt64 _ (Nat.mod_lt _ (by omega))))
theorem wf_del {S : List Nat} (h : wfB S) (i : Nat) : wfB (delB S i) := wf_set h _ _ (Nat.lt_of_le_of_lt Nat.and_le_left (h.2 _))
theorem has_add {S : List Nat} (h : wfB S) (i j : Nat) (hi : i < 256) : hasS (addB S i) j = (decide (j = i) || hasS S j) := by
  have hil : i / 64 < S.length := by rw [h.1]; omega
  unfold hasS addB
  rw [getD_set S _ _ _ hil]
  by_cases e : i / 64 = j / 64
  · rw [if_pos e, Nat.testBit_or, Nat.testBit_two_pow, e, Bool.or_comm]
    congr 1
    rw [Bool.eq_iff_iff, decide_eq_true_eq, decide_eq_true_eq]
    omega
  · rw [if_neg e]
    have : j ≠ i := fun e' => e (by rw [e'])
    simp [this]
theorem has_del {S : List Nat} (h : wfB S) (i j : Nat) (hi : i < 256) : hasS (delB S i) j = (decide (j ≠ i) && hasS S j) := by
  have hil : i / 64 < S.length := by rw [h.1]; omega
  have hm : j % 64 < 64 := Nat.mod_lt _ (by omega)
  unfold hasS delB
  rw [getD_set S _ _ _ hil]
  by_cases e : i / 64 = j / 64
  · rw [if_pos e, Nat.testBit_and, testBit_not _ _ (pow_lt64 _ (Nat.mod_lt _ (by omega))), Nat.testBit_two_pow, e, Bool.and_comm, decide_eq_true hm, Bool.true_and]
    congr 1
    rw [Bool.eq_iff_iff, Bool.not_eq_true', decide_eq_false_iff_not, decide_eq_true_eq]
    omega
  · rw [if_neg e]
    have : j ≠ i := fun e' => e (by rw [e'])
    simp [this]
theorem wf_form {S : List Nat} (h : wfB S) : ∃ a b c d, S = [a, b, c, d] ∧ a < 2 ^ 64 ∧ b < 2 ^ 64 ∧ c < 2 ^ 64 ∧ d < 2 ^ 64 := by
  match S, h.1 with
  | [a, b, c, d], _ => exact ⟨a, b, c, d, rfl, h.2 0, h.2 1, h.2 2, h.2 3⟩
theorem wf_mk {a b c d : Nat} (h1 : a < 2 ^ 64) (h2 : b < 2 ^ 64) (h3 : c < 2 ^ 64) (h4 : d < 2 ^ 64) : wfB [a, b, c, d] := by
  refine ⟨rfl, fun k => ?_⟩
  match k with
  | 0 => exact h1
  | 1 => exact h2
  | 2 => exact h3
  | 3 => exact h4
  | k + 4 => simp
theorem zip_get (f : Nat → Nat → Nat) (hf : f 0 0 = 0) {S T : List Nat} (hS : wfB S) (hT : wfB T) (k : Nat) : (List.zipWith f S T).getD k 0 = f (S.getD k 0) (T.getD k 0) := by
  obtain ⟨a, b, c, d, rfl, _⟩ := wf_form hS
  obtain ⟨a', b', c', d', rfl, _⟩ := wf_form hT
  match k with
  | 0 => rfl
  | 1 => rfl
  | 2 => rfl
  | 3 => rfl
  | k + 4 => simp [hf]
theorem wf_zip (f : Nat → Nat → Nat) (hf : ∀ x y, x < 2 ^ 64 → y < 2 ^ 64 → f x y < 2 ^ 64) {S T : List Nat} (hS : wfB S) (hT : wfB T) : wfB (List.zipWith f S T) := by
  obtain ⟨a, b, c, d, rfl, h1, h2, h3, h4⟩ := wf_form hS
  obtain ⟨a', b', c', d', rfl, k1, k2, k3, k4⟩ := wf_form hT
  exact wf_mk (hf _ _ h1 k1) (hf _ _ h2 k2) (hf _ _ h3 k3) (hf _ _ h4 k4)
section
variable {S T : List Nat} (hS : wfB S) (hT : wfB T)
include hS hT
theorem wf_and : wfB (andB S T) := wf_zip _ (fun _ _ h _ => Nat.lt_of_le_of_lt Nat.and_le_left h) hS hT
theorem wf_or : wfB (orB S T) := wf_zip _ (fun _ _ h h' => Nat.or_lt_two_pow h h') hS hT
theorem wf_minus : wfB (minusB S T) := wf_zip _ (fun _ _ h _ => Nat.lt_of_le_of_lt Nat.and_le_left h) hS hT
theorem has_and (i : Nat) : hasS (andB S T) i = (hasS S i && hasS T i) := by
  unfold hasS andB; rw [zip_get _ (by rfl) hS hT, Nat.testBit_and]
theorem has_or (i : Nat) : hasS (orB S T) i = (hasS S i || hasS T i) := by
  unfold hasS orB; rw [zip_get _ (by rfl) hS hT, Nat.testBit_or]
theorem has_minus (i : Nat) : hasS (minusB S T) i = (hasS S i && !hasS T i) := by
  unfold hasS minusB
  rw [zip_get _ (by rw [Nat.zero_and]) hS hT, Nat.testBit_and, testBit_not _ _ (hT.2 _), decide_eq_true (Nat.mod_lt _ (by omega)), Bool.true_and]
/-- Sets are equal just if they have the same places. -/
theorem ext_has (h : ∀ i, i < 256 → hasS S i = hasS T i) : S = T := by
  have key : ∀ k, k < 4 → S.getD k 0 = T.getD k 0 := fun k hk => by
    refine Nat.eq_of_testBit_eq fun i => ?_
    by_cases hi : i < 64
    · have := h (64 * k + i) (by omega)
      unfold hasS at this
      rw [show (64 * k + i) / 64 = k by omega, show (64 * k + i) % 64 = i by omega] at this
      exact this
    · have hp : 2 ^ 64 ≤ 2 ^ i := Nat.pow_le_pow_right (by omega) (by omega)
      rw [Nat.testBit_lt_two_pow (Nat.lt_of_lt_of_le (hS.2 k) hp), Nat.testBit_lt_two_pow (Nat.lt_of_lt_of_le (hT.2 k) hp)]
  obtain ⟨a, b, c, d, rfl, _⟩ := wf_form hS
  obtain ⟨a', b', c', d', rfl, _⟩ := wf_form hT
  have k0 := key 0 (by omega)
  have k1 := key 1 (by omega)
  have k2 := key 2 (by omega)
  have k3 := key 3 (by omega)
  simp at k0 k1 k2 k3
  subst k0 k1 k2 k3
  rfl
end
theorem mem_lst (S : List Nat) (i : Nat) : i ∈ lst S ↔ i < 256 ∧ hasS S i = true := by simp [lst, lstTo]
theorem mem_lstTo (S : List Nat) (i n : Nat) : i ∈ lstTo S n ↔ i < n ∧ hasS S i = true := by simp [lstTo]
theorem lst_len (S : List Nat) (n : Nat) : (lstTo S n).length ≤ n := by
  have := List.length_filter_le (hasS S) (List.range n)
  simpa [lstTo] using this
theorem lstTo_succ (S : List Nat) (n : Nat) : lstTo S (n + 1) = if hasS S n then lstTo S n ++ [n] else lstTo S n := by
  unfold lstTo
  rw [List.range_succ, List.filter_append]
  by_cases h : hasS S n <;> simp [h]
/-- The least place that is not below i: v; there is none: -1. -/
def NextR (S : List Nat) (i : Nat) (v : Int) : Prop :=
  (v = -1 ∧ ∀ k, i ≤ k → k < 256 → hasS S k = false) ∨ ∃ j : Nat, v = j ∧ i ≤ j ∧ j < 256 ∧ hasS S j = true ∧ ∀ k, i ≤ k → k < j → hasS S k = false
theorem next_unique {S : List Nat} {i : Nat} {u v : Int} (h : NextR S i u) (h' : NextR S i v) : u = v := by
  rcases h with ⟨rfl, h1⟩ | ⟨j, rfl, h1, h2, h3, h4⟩ <;> rcases h' with ⟨rfl, k1⟩ | ⟨j', rfl, k1, k2, k3, k4⟩
  · rfl
  · have := h1 j' k1 k2; rw [k3] at this; cases this
  · have := k1 j h1 h2; rw [h3] at this; cases this
  · rcases Nat.lt_trichotomy j j' with h | h | h
    · have := k4 j h1 h; rw [h3] at this; cases this
    · rw [h]
    · have := h4 j' k1 h; rw [k3] at this; cases this
theorem lstTo_skip (S : List Nat) (i j : Nat) (hij : i ≤ j) (h : ∀ k, i ≤ k → k < j → hasS S k = false) : lstTo S j = lstTo S i := by
  induction j with
  | zero => rw [show i = 0 by omega]
  | succ j ih =>
    rcases Nat.lt_or_ge j i with h1 | h1
    · rw [show i = j + 1 by omega]
    · rw [lstTo_succ, h j h1 (by omega), if_neg (by simp), ih h1 (fun k a b => h k a (by omega))]
theorem next_lst {S : List Nat} {i : Nat} {v : Int} (h : NextR S i v) (hi : i ≤ 256) : (v = -1 ∧ lst S = lstTo S i) ∨ ∃ j : Nat, v = j ∧ i ≤ j ∧ j < 256 ∧ lstTo S (j + 1) = lstTo S i ++ [j] ∧ hasS S j = true := by
  rcases h with ⟨rfl, h1⟩ | ⟨j, rfl, h1, h2, h3, h4⟩
  · exact .inl ⟨rfl, lstTo_skip S i 256 hi h1⟩
  · exact .inr ⟨j, rfl, h1, h2, by rw [lstTo_succ, h3, if_pos rfl, lstTo_skip S i j h1 h4], h3⟩
/-- A word from a place on. -/
theorem word_zero (x r : Nat) (h : x / 2 ^ r = 0) (k : Nat) (hk : r ≤ k) : x.testBit k = false := by
  have h1 : x < 2 ^ r := by
    rcases Nat.div_eq_zero_iff.1 h with h | h
    · exact absurd h (Nat.ne_of_gt (Nat.two_pow_pos r))
    · exact h
  exact Nat.testBit_lt_two_pow (Nat.lt_of_lt_of_le h1 (Nat.pow_le_pow_right (by omega) hk))
theorem word_first (x r : Nat) (hx : x < 2 ^ 64) (h : x / 2 ^ r ≠ 0) : x.testBit (r + Lib.ctz 64 (x / 2 ^ r)) = true ∧ r + Lib.ctz 64 (x / 2 ^ r) < 64 ∧ ∀ k, r ≤ k → k < r + Lib.ctz 64 (x / 2 ^ r) → x.testBit k = false := by
  have hy : x / 2 ^ r < 2 ^ 64 := Nat.lt_of_le_of_lt (Nat.div_le_self _ _) hx
  obtain ⟨m, hm, hk⟩ := Lib.ctzFrom_spec 64 (x / 2 ^ r) (Nat.pos_of_ne_zero h) hy
  have e : Lib.ctz 64 (x / 2 ^ r) = Lib.ctzFrom 64 (x / 2 ^ r) := by simp [Lib.ctz, h]
  rw [e]
  obtain ⟨t, ht⟩ : ∃ t, Lib.ctzFrom 64 (x / 2 ^ r) = t := ⟨_, rfl⟩
  rw [ht] at hm hk ⊢
  have sh : ∀ k, x.testBit (r + k) = (x / 2 ^ r).testBit k := fun k => by rw [Nat.testBit_div_two_pow, Nat.add_comm]
  have tb : ∀ k, (x / 2 ^ r).testBit k = decide ((2 ^ t * (2 * m + 1)) / 2 ^ k % 2 = 1) := fun k => by rw [← hm, Nat.testBit_eq_decide_div_mod_eq]
  have h1 : x.testBit (r + t) = true := by
    rw [sh, tb, decide_eq_true_eq, Nat.mul_div_cancel_left _ (Nat.two_pow_pos t)]
    omega
  refine ⟨h1, ?_, fun k hk1 hk2 => ?_⟩
  · rcases Nat.lt_or_ge (r + t) 64 with h | h
    · exact h
    · rw [Nat.testBit_lt_two_pow (Nat.lt_of_lt_of_le hx (Nat.pow_le_pow_right (by omega) h))] at h1; cases h1
  · obtain ⟨q, rfl⟩ : ∃ q, k = r + q := ⟨k - r, by omega⟩
    rw [sh, tb, decide_eq_false_iff_not]
    obtain ⟨u, hu⟩ : ∃ u, t = q + (u + 1) := ⟨t - q - 1, by omega⟩
    rw [hu, Nat.pow_add, Nat.mul_assoc, Nat.mul_div_cancel_left _ (Nat.two_pow_pos q), Nat.pow_succ]
    rw [Nat.mul_comm (2 ^ u) 2, Nat.mul_assoc]
    omega
/-- The words of places. -/
def wordsB (l : List Nat) : List Nat := l.foldl addB [0, 0, 0, 0]
theorem wf_zero : wfB [0, 0, 0, 0] := wf_mk (by decide) (by decide) (by decide) (by decide)
theorem has_zero (i : Nat) : hasS [0, 0, 0, 0] i = false := by
  unfold hasS
  have : ([0, 0, 0, 0] : List Nat).getD (i / 64) 0 = 0 := by
    match i / 64 with
    | 0 => rfl
    | 1 => rfl
    | 2 => rfl
    | 3 => rfl
    | k + 4 => simp
  rw [this]; simp
theorem words_fold (l : List Nat) : ∀ (S : List Nat), wfB S → (∀ x ∈ l, x < 256) → wfB (l.foldl addB S) ∧ ∀ j, hasS (l.foldl addB S) j = (decide (j ∈ l) || hasS S j) := by
  induction l with
  | nil => intro S h _; exact ⟨h, fun j => by simp⟩
  | cons x l ih =>
    intro S h hx
    obtain ⟨h1, h2⟩ := ih (addB S x) (wf_add h x) (fun y hy => hx y (by simp [hy]))
    refine ⟨h1, fun j => ?_⟩
    rw [List.foldl_cons, h2, has_add h x j (hx x (by simp))]
    by_cases e : j = x <;> by_cases e' : j ∈ l <;> simp [e, e']
theorem wf_words (l : List Nat) (h : ∀ x ∈ l, x < 256) : wfB (wordsB l) := (words_fold l _ wf_zero h).1
theorem has_words (l : List Nat) (h : ∀ x ∈ l, x < 256) (j : Nat) : hasS (wordsB l) j = decide (j ∈ l) := by rw [wordsB, (words_fold l _ wf_zero h).2, has_zero, Bool.or_false]
end Go.Proofs.YtcgadmeagbcbnaaDoor
