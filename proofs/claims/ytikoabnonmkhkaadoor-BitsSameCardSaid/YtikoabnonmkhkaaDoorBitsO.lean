/- What a set of a row of places has. -/
import Derived.Test.YtikoabnonmkhkaaDoorBitsN
namespace Go.Proofs.YtikoabnonmkhkaaDoor

theorem has_addI {S : List Nat} (h : wfB S) (x j : Nat) (hj : j < 256) : hasB (addI S (x : Int)) j = (decide (j = x) || hasB S j) := by
  unfold addI
  split
  · rw [show ((x : Int)).toNat = x by omega]; exact has_add h x j (by omega)
  · rw [decide_eq_false (by omega), Bool.false_or]
theorem has_fold (L : List Nat) : ∀ S, wfB S → ∀ j, j < 256 → hasB (L.foldl (fun (S : List Nat) (i : Nat) => addI S (i : Int)) S) j = (decide (j ∈ L) || hasB S j) := by
  induction L with
  | nil => intro S _ j _; simp
  | cons x L ih =>
    intro S h j hj
    rw [List.foldl_cons, ih (addI S (x : Int)) (wf_addI h (x : Int)) j hj, has_addI h x j hj]
    by_cases h1 : j = x <;> by_cases h2 : j ∈ L <;> simp [h1, h2]
theorem has_setOf (L : List Nat) (j : Nat) (hj : j < 256) : hasB (setOf L) j = decide (j ∈ L) := by
  unfold setOf
  rw [has_fold L [0, 0, 0, 0] (wf_mk (by omega) (by omega) (by omega) (by omega)) j hj, show hasB [0, 0, 0, 0] j = false from has_zero j, Bool.or_false]
/-- A set of the places of a set is the set. -/
theorem setOf_lst {S : List Nat} (h : wfB S) : setOf (lst S) = S := by
  refine ext_has (wf_setOf _) h (fun i hi => ?_)
  rw [has_setOf _ i hi, Bool.eq_iff_iff, decide_eq_true_eq, mem_lst]
  exact ⟨fun h => h.2, fun h => ⟨hi, h⟩⟩
end Go.Proofs.YtikoabnonmkhkaaDoor
