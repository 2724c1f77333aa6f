/- The plain law behind the five statements on sets. No condition. -/
import Derived.Test.YtikoabnonmkhkaaDoorBitsQ
namespace Go.Proofs.YtikoabnonmkhkaaDoor
open Go.RowKit

theorem has_addI' {S : List Nat} (h : wfB S) (i : Int) (j : Nat) (hj : j < 256) : hasB (addI S i) j = (decide ((j : Int) = i) || hasB S j) := by
  unfold addI
  split
  · rw [has_add h i.toNat j (by omega)]
    congr 1
    rw [Bool.eq_iff_iff, decide_eq_true_eq, decide_eq_true_eq]; omega
  · rw [decide_eq_false (by omega), Bool.false_or]
theorem has_delI' {S : List Nat} (h : wfB S) (i : Int) (j : Nat) (hj : j < 256) : hasB (delI S i) j = (decide ((j : Int) ≠ i) && hasB S j) := by
  unfold delI
  split
  · rw [has_del h i.toNat j (by omega)]
    congr 1
    rw [Bool.eq_iff_iff, decide_eq_true_eq, decide_eq_true_eq]; omega
  · rw [decide_eq_true (by omega), Bool.true_and]
theorem has_tell (S : List Nat) (i : Int) : hasI S i = decide (i ∈ zl (lst S)) := by
  unfold hasI
  by_cases h : 0 ≤ i ∧ i < 256
  · obtain ⟨n, rfl⟩ : ∃ n : Nat, i = n := ⟨i.toNat, by omega⟩
    rw [decide_eq_true h, Bool.true_and, Bool.eq_iff_iff, decide_eq_true_eq, mem_zl, mem_lst, show ((n : Int)).toNat = n by omega]
    exact ⟨fun h2 => ⟨by omega, h2⟩, fun h2 => h2.2⟩
  · rw [decide_eq_false h, Bool.false_and, Bool.eq_iff_iff, decide_eq_true_eq]
    refine ⟨fun h2 => (by cases h2), fun h2 => ?_⟩
    simp only [zl, List.mem_map] at h2
    obtain ⟨x, hx, rfl⟩ := h2
    have := ((mem_lst S x).1 hx).1
    omega
theorem words_of {M R : List Nat} (hR : wfB R) (hM : ∀ x ∈ M, x < 256) (h : ∀ j, j < 256 → (j ∈ M ↔ hasB R j = true)) : R = wordsB M := by
  refine ext_has hR (wf_words M hM) fun j hj => ?_
  rw [has_words M hM, Bool.eq_iff_iff, decide_eq_true_eq]
  exact (h j hj).symm
theorem lst_lt {S : List Nat} : ∀ x ∈ lst S, x < 256 := fun x hx => ((mem_lst S x).1 hx).1
theorem words_add {S M : List Nat} (h : wfB S) (i : Int) (hm : ∀ x : Nat, x ∈ M ↔ x ∈ lst S ∨ ((x : Int) = i ∧ x < 256)) : (∀ x ∈ M, x < 256) ∧ addI S i = wordsB M := by
  have h1 : ∀ x ∈ M, x < 256 := fun x hx => by
    rcases (hm x).1 hx with h2 | h2
    · exact lst_lt x h2
    · exact h2.2
  refine ⟨h1, words_of (wf_addI h i) h1 fun j hj => ?_⟩
  rw [hm j, has_addI' h i j hj, mem_lst, Bool.or_eq_true, decide_eq_true_eq]
  constructor
  · rintro (h2 | h2)
    · exact .inr h2.2
    · exact .inl h2.1
  · rintro (h2 | h2)
    · exact .inr ⟨h2, hj⟩
    · exact .inl ⟨hj, h2⟩
theorem words_del {S : List Nat} (h : wfB S) (i : Int) : (∀ x ∈ (lst S).filter (fun x : Nat => decide ((x : Int) ≠ i)), x < 256) ∧ delI S i = wordsB ((lst S).filter (fun x : Nat => decide ((x : Int) ≠ i))) := by
  have h1 : ∀ x ∈ (lst S).filter (fun x : Nat => decide ((x : Int) ≠ i)), x < 256 := fun x hx => lst_lt x (List.mem_filter.1 hx).1
  refine ⟨h1, words_of (wf_delI h i) h1 fun j hj => ?_⟩
  rw [List.mem_filter, mem_lst, has_delI' h i j hj, Bool.and_eq_true]
  exact ⟨fun ⟨a, b⟩ => ⟨b, a.2⟩, fun ⟨a, b⟩ => ⟨⟨hj, b⟩, a⟩⟩
theorem next_ex (S : List Nat) (i : Nat) : ∃ v, NextR S i v := by
  have key : ∀ d i, 256 - i = d → ∃ v, NextR S i v := by
    intro d
    induction d with
    | zero => exact fun i h => ⟨-1, .inl ⟨rfl, fun k h1 h2 => by omega⟩⟩
    | succ d ih =>
      intro i h
      cases hi : hasB S i with
      | true => exact ⟨i, .inr ⟨i, rfl, Nat.le_refl _, by omega, hi, fun k h1 h2 => by omega⟩⟩
      | false =>
        obtain ⟨v, hv⟩ := ih (i + 1) (by omega)
        refine ⟨v, ?_⟩
        rcases hv with ⟨h1, h2⟩ | ⟨j, h1, h2, h3, h4, h5⟩
        · refine .inl ⟨h1, fun k h3 h4 => ?_⟩
          by_cases e : k = i
          · rw [e]; exact hi
          · exact h2 k (by omega) h4
        · refine .inr ⟨j, h1, by omega, h3, h4, fun k h6 h7 => ?_⟩
          by_cases e : k = i
          · rw [e]; exact hi
          · exact h5 k (by omega) h7
  exact key _ i rfl
theorem words_and {S T : List Nat} (hS : wfB S) (hT : wfB T) : (∀ x ∈ (lst S).filter (fun x : Nat => decide ((x : Int) ∈ zl (lst T))), x < 256) ∧ andB S T = wordsB ((lst S).filter (fun x : Nat => decide ((x : Int) ∈ zl (lst T)))) := by
  have h1 : ∀ x ∈ (lst S).filter (fun x : Nat => decide ((x : Int) ∈ zl (lst T))), x < 256 := fun x hx => lst_lt x (List.mem_filter.1 hx).1
  refine ⟨h1, words_of (wf_and hS hT) h1 fun j hj => ?_⟩
  rw [List.mem_filter, mem_lst, has_and hS hT, Bool.and_eq_true, decide_eq_true_eq, mem_zl, mem_lst]
  exact ⟨fun ⟨a, b⟩ => ⟨a.2, b.2⟩, fun ⟨a, b⟩ => ⟨⟨hj, a⟩, hj, b⟩⟩
theorem words_minus {S T : List Nat} (hS : wfB S) (hT : wfB T) : (∀ x ∈ (lst S).filter (fun x : Nat => !decide ((x : Int) ∈ zl (lst T))), x < 256) ∧ minusB S T = wordsB ((lst S).filter (fun x : Nat => !decide ((x : Int) ∈ zl (lst T)))) := by
  have h1 : ∀ x ∈ (lst S).filter (fun x : Nat => !decide ((x : Int) ∈ zl (lst T))), x < 256 := fun x hx => lst_lt x (List.mem_filter.1 hx).1
  refine ⟨h1, words_of (wf_minus hS hT) h1 fun j hj => ?_⟩
  rw [List.mem_filter, mem_lst, has_minus hS hT, Bool.and_eq_true, Bool.not_eq_true', decide_eq_false_iff_not, mem_zl, mem_lst, Bool.not_eq_true']
  constructor
  · rintro ⟨a, b⟩
    refine ⟨a.2, ?_⟩
    cases e : hasB T j with
    | false => rfl
    | true => exact absurd ⟨hj, e⟩ b
  · rintro ⟨a, b⟩
    exact ⟨⟨hj, a⟩, fun h => by rw [b] at h; cases h.2⟩
theorem words_or {S T M : List Nat} (hS : wfB S) (hT : wfB T) (hm : ∀ x : Nat, x ∈ M ↔ x ∈ lst S ∨ (x ∈ lst T ∧ x < 256)) : (∀ x ∈ M, x < 256) ∧ orB S T = wordsB M := by
  have h1 : ∀ x ∈ M, x < 256 := fun x hx => by
    rcases (hm x).1 hx with h2 | h2
    · exact lst_lt x h2
    · exact h2.2
  refine ⟨h1, words_of (wf_or hS hT) h1 fun j hj => ?_⟩
  rw [hm j, has_or hS hT, mem_lst, mem_lst, Bool.or_eq_true]
  constructor
  · rintro (h2 | h2)
    · exact .inl h2.2
    · exact .inr h2.1.2
  · rintro (h2 | h2)
    · exact .inl ⟨hj, h2⟩
    · exact .inr ⟨⟨hj, h2⟩, hj⟩
/-! Memory. -/
theorem ints_later {w0 w : World} {v : Value} {L : List Nat} (h : Ints w0 w0.heap.size v (zl L)) (hb : Below w0.heap.size w0 w) : Ints w w.heap.size v (zl L) := Ints.mono (Ints.below h hb (Nat.le_refl _)) hb.size
/-- A store into a block of words leaves a row of numbers. -/
theorem ints_set {w : World} {n : Nat} {v : Value} {l : List Int} (h : Ints w n v l) {B : Nat} {t : TypeId} {vs : List Value} (hA : Arr w B t vs) (hvs : ∀ x ∈ vs, ∀ z, x ≠ .int .i64 z) (j : Nat) (x : Value) : Ints (w.setCell ⟨B, j, none⟩ x) n v l := by
  rcases h with h | ⟨b, o, c, e, hl, h1, h2⟩
  · exact .inl h
  · refine .inr ⟨b, o, c, e, hl, h1, fun k hk => ?_⟩
    have h3 := h2 k hk
    by_cases hb : b = B
    · subst hb
      rw [hA.cell] at h3
      exact absurd rfl (hvs _ (List.mem_of_getElem? h3) _)
    · have hbl : (w.setCell ⟨B, j, none⟩ x).heap[b]? = w.heap[b]? := heap_setCell_other w ⟨B, j, none⟩ b x hb
      unfold World.cell? at h3 ⊢
      rw [hbl]
      exact h3
/-- A set stored into a new block. -/
theorem set_stored {wa w1 : World} {B : Nat} {t : TypeId} (hb : Below wa.heap.size wa w1) (hB : Arr w1 B t [.int .u64 0, .int .u64 0, .int .u64 0, .int .u64 0]) (hl : wa.heap.size ≤ B) (a b c d : Nat) :
    Below wa.heap.size wa ((((w1.setCell ⟨B, 0, none⟩ (.int .u64 a)).setCell ⟨B, 1, none⟩ (.int .u64 b)).setCell ⟨B, 2, none⟩ (.int .u64 c)).setCell ⟨B, 3, none⟩ (.int .u64 d)) ∧
    Arr ((((w1.setCell ⟨B, 0, none⟩ (.int .u64 a)).setCell ⟨B, 1, none⟩ (.int .u64 b)).setCell ⟨B, 2, none⟩ (.int .u64 c)).setCell ⟨B, 3, none⟩ (.int .u64 d)) B t [.int .u64 a, .int .u64 b, .int .u64 c, .int .u64 d] ∧
    (∀ n v l, Ints w1 n v l → Ints ((((w1.setCell ⟨B, 0, none⟩ (.int .u64 a)).setCell ⟨B, 1, none⟩ (.int .u64 b)).setCell ⟨B, 2, none⟩ (.int .u64 c)).setCell ⟨B, 3, none⟩ (.int .u64 d)) n v l) ∧
    (∀ B' t' vs, B' ≠ B → Arr w1 B' t' vs → Arr ((((w1.setCell ⟨B, 0, none⟩ (.int .u64 a)).setCell ⟨B, 1, none⟩ (.int .u64 b)).setCell ⟨B, 2, none⟩ (.int .u64 c)).setCell ⟨B, 3, none⟩ (.int .u64 d)) B' t' vs) := by
  refine ⟨(((hb.setCell (p := ⟨B, 0, none⟩) hl _).setCell (p := ⟨B, 1, none⟩) hl _).setCell (p := ⟨B, 2, none⟩) hl _).setCell (p := ⟨B, 3, none⟩) hl _, (((hB.set 0 _).set 1 _).set 2 _).set 3 _, fun n v l h => ?_, fun B' t' vs hne h => ?_⟩
  · exact ints_set (ints_set (ints_set (ints_set h hB (by simp) 0 _) (hB.set 0 _) (by simp) 1 _) ((hB.set 0 _).set 1 _) (by simp) 2 _) (((hB.set 0 _).set 1 _).set 2 _) (by simp) 3 _
  · exact (((h.set_other _ _ hne).set_other _ _ hne).set_other _ _ hne).set_other _ _ hne
theorem setCell_size' (w : World) (p : Addr) (v : Value) : (w.setCell p v).heap.size = w.heap.size := World.size_setCell w p v
theorem wrap64i (x : Int) (h1 : -9223372036854775808 ≤ x) (h2 : x ≤ 9223372036854775807) : IntKind.i64.wrap x = x := by
  simp only [IntKind.wrap, IntKind.bits, IntKind.signed]
  simp
  omega
theorem arr2a (w : World) (t : TypeId) (vs : List Value) (o : Obj) : Arr ((w.alloc (.cells vs.toArray t)).alloc o) w.heap.size t vs := (Arr.new w t vs).alloc o
theorem arr2b (w : World) (t : TypeId) (vs : List Value) (o : Obj) : Arr ((w.alloc o).alloc (.cells vs.toArray t)) (w.heap.size + 1) t vs := by
  have := Arr.new (w.alloc o) t vs
  rwa [World.size_alloc] at this
/-! The laws of the Booleans. -/
theorem or_comm' {S T : List Nat} (hS : wfB S) (hT : wfB T) : orB T S = orB S T := ext_has (wf_or hT hS) (wf_or hS hT) fun i _ => by rw [has_or hT hS, has_or hS hT, Bool.or_comm]
theorem and_comm' {S T : List Nat} (hS : wfB S) (hT : wfB T) : andB T S = andB S T := ext_has (wf_and hT hS) (wf_and hS hT) fun i _ => by rw [has_and hT hS, has_and hS hT, Bool.and_comm]
theorem parts_or {S T : List Nat} (hS : wfB S) (hT : wfB T) : orB (minusB S T) (andB S T) = S := ext_has (wf_or (wf_minus hS hT) (wf_and hS hT)) hS fun i _ => by
  rw [has_or (wf_minus hS hT) (wf_and hS hT), has_minus hS hT, has_and hS hT]; cases hasB S i <;> cases hasB T i <;> rfl
theorem minus_and {S T : List Nat} (hS : wfB S) (hT : wfB T) : andB (minusB S T) T = [0, 0, 0, 0] := ext_has (wf_and (wf_minus hS hT) hT) wf_zero fun i _ => by
  rw [has_and (wf_minus hS hT) hT, has_minus hS hT, has_zero]; cases hasB S i <;> cases hasB T i <;> rfl
theorem or_minus_or {S T : List Nat} (hS : wfB S) (hT : wfB T) : orB (minusB (orB S T) T) T = orB S T := ext_has (wf_or (wf_minus (wf_or hS hT) hT) hT) (wf_or hS hT) fun i _ => by
  rw [has_or (wf_minus (wf_or hS hT) hT) hT, has_minus (wf_or hS hT) hT, has_or hS hT]; cases hasB S i <;> cases hasB T i <;> rfl
theorem or_self' {S : List Nat} (hS : wfB S) : orB S S = S := ext_has (wf_or hS hS) hS fun i _ => by rw [has_or hS hS, Bool.or_self]
theorem minus_self_next {S : List Nat} (hS : wfB S) : NextR (minusB S S) 0 (-1) := .inl ⟨rfl, fun k _ _ => by rw [has_minus hS hS]; cases hasB S k <;> rfl⟩
theorem len_or_and {S T : List Nat} (hS : wfB S) (hT : wfB T) : (lst (orB S T)).length + (lst (andB S T)).length = (lst S).length + (lst T).length := by
  unfold lst
  have key : ∀ n, (lstTo (orB S T) n).length + (lstTo (andB S T) n).length = (lstTo S n).length + (lstTo T n).length := by
    intro n
    induction n with
    | zero => rfl
    | succ n ih =>
      rw [lstTo_succ, lstTo_succ, lstTo_succ, lstTo_succ, has_or hS hT, has_and hS hT]
      cases hasB S n <;> cases hasB T n <;> simp <;> omega
  exact key 256
theorem lst_le (S : List Nat) : (lst S).length ≤ 256 := lst_len S 256
theorem filter_le (S : List Nat) (p : Nat → Bool) : ((lst S).filter p).length ≤ 1000 := Nat.le_trans (List.length_filter_le _ _) (Nat.le_trans (lst_le S) (by omega))
end Go.Proofs.YtikoabnonmkhkaaDoor
