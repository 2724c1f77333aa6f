/- The walk of the law's works. -/
import Derived.Test.YtikoabnonmkhkaaDoorBitsO
import Derived.Test.YtikoabnonmkhkaaDoorBitsL
import Derived.Test.YtikoabnonmkhkaaDoorBitsI
import Derived.Test.YtikoabnonmkhkaaDoorLat
namespace Go.Proofs.YtikoabnonmkhkaaDoor
open Go.RowKit

/-- The set of 3, 64, 255. -/
def K0 : List Nat := [8, 1, 0, 9223372036854775808]
theorem wf_K0 : wfB K0 := wf_mk (by omega) (by omega) (by omega) (by omega)
theorem set_K0 : setOf [3, 64, 255] = K0 := by kernel_rfl
theorem k_has64 (W : World) : Calls Tryd.prog 9 #[.agg #[.int .u64 8, .int .u64 1, .int .u64 0, .int .u64 9223372036854775808], .int .i64 64] W fun e w' => e = .returned (.bool true) ∧ Below W.heap.size W w' :=
  bhas_any wf_K0 64 W
theorem k_has65 (W : World) : Calls Tryd.prog 9 #[.agg #[.int .u64 8, .int .u64 1, .int .u64 0, .int .u64 9223372036854775808], .int .i64 65] W fun e w' => e = .returned (.bool false) ∧ Below W.heap.size W w' :=
  bhas_any wf_K0 65 W
theorem k_hasm1 (W : World) : Calls Tryd.prog 9 #[.agg #[.int .u64 8, .int .u64 1, .int .u64 0, .int .u64 9223372036854775808], .int .i64 (-1)] W fun e w' => e = .returned (.bool false) ∧ Below W.heap.size W w' :=
  bhas_any wf_K0 (-1) W
theorem k_has320 (W : World) : Calls Tryd.prog 9 #[.agg #[.int .u64 8, .int .u64 1, .int .u64 0, .int .u64 9223372036854775808], .int .i64 320] W fun e w' => e = .returned (.bool false) ∧ Below W.heap.size W w' :=
  bhas_any wf_K0 320 W
/-- Next, told from a table. -/
theorem next_tab {S : List Nat} {i : Nat} {v : Int} {j : Nat} (h : NextR S i v) (hj : (List.range j).all (fun k => decide (k < i) || !hasB S k) = true) (hh : (decide (i ≤ j) && hasB S j && decide (j < 256)) = true)   : v = (j : Int) := by
  simp only [Bool.and_eq_true, decide_eq_true_eq] at hh
  have h' : NextR S i (j : Int) := .inr ⟨j, rfl, hh.1.1, hh.2, hh.1.2, fun k h1 h2 => by
    have := List.all_eq_true.1 hj k (List.mem_range.2 h2)
    simp only [Bool.or_eq_true, decide_eq_true_eq, Bool.not_eq_true'] at this
    rcases this with h | h
    · omega
    · exact h⟩
  exact next_unique h h'
theorem k_next0 (W : World) (hT : TabAt W) (h0 : 0 < W.heap.size) : Calls Tryd.prog 17 #[.agg #[.int .u64 8, .int .u64 1, .int .u64 0, .int .u64 9223372036854775808], .int .i64 0] W fun e w' => e = .returned (.int .i64 3) ∧ Below W.heap.size W w' := by
  refine (bnext_any wf_K0 0 (by omega) W hT h0).mono ?_
  rintro e w' ⟨v, rfl, hv, hb⟩
  rw [next_tab hv (j := 3) (by kernel_rfl) (by kernel_rfl)]
  exact ⟨rfl, hb⟩
theorem k_next4 (W : World) (hT : TabAt W) (h0 : 0 < W.heap.size) : Calls Tryd.prog 17 #[.agg #[.int .u64 8, .int .u64 1, .int .u64 0, .int .u64 9223372036854775808], .int .i64 4] W fun e w' => e = .returned (.int .i64 64) ∧ Below W.heap.size W w' := by
  refine (bnext_any wf_K0 4 (by omega) W hT h0).mono ?_
  rintro e w' ⟨v, rfl, hv, hb⟩
  rw [next_tab hv (j := 64) (by kernel_rfl) (by kernel_rfl)]
  exact ⟨rfl, hb⟩
theorem k_next65 (W : World) (hT : TabAt W) (h0 : 0 < W.heap.size) : Calls Tryd.prog 17 #[.agg #[.int .u64 8, .int .u64 1, .int .u64 0, .int .u64 9223372036854775808], .int .i64 65] W fun e w' => e = .returned (.int .i64 255) ∧ Below W.heap.size W w' := by
  refine (bnext_any wf_K0 65 (by omega) W hT h0).mono ?_
  rintro e w' ⟨v, rfl, hv, hb⟩
  rw [next_tab hv (j := 255) (by kernel_rfl) (by kernel_rfl)]
  exact ⟨rfl, hb⟩
theorem k_nextm9 (W : World) (hT : TabAt W) (h0 : 0 < W.heap.size) : Calls Tryd.prog 17 #[.agg #[.int .u64 8, .int .u64 1, .int .u64 0, .int .u64 9223372036854775808], .int .i64 (-9)] W fun e w' => e = .returned (.int .i64 3) ∧ Below W.heap.size W w' := by
  refine (bnext_any wf_K0 (-9) (by omega) W hT h0).mono ?_
  rintro e w' ⟨v, rfl, hv, hb⟩
  rw [next_tab hv (j := 3) (by kernel_rfl) (by kernel_rfl)]
  exact ⟨rfl, hb⟩
theorem k_next256 (W : World) (hT : TabAt W) (h0 : 0 < W.heap.size) : Calls Tryd.prog 17 #[.agg #[.int .u64 8, .int .u64 1, .int .u64 0, .int .u64 9223372036854775808], .int .i64 256] W fun e w' => e = .returned (.int .i64 (-1)) ∧ Below W.heap.size W w' := by
  refine (bnext_any wf_K0 256 (by omega) W hT h0).mono ?_
  rintro e w' ⟨v, rfl, hv, hb⟩
  rw [next_unique hv (.inl ⟨rfl, fun k h1 h2 => by have : (256 : Nat) ≤ k := h1; omega⟩)]
  exact ⟨rfl, hb⟩
theorem k_add3 (W : World) : Calls Tryd.prog 11 #[.agg #[.int .u64 8, .int .u64 1, .int .u64 0, .int .u64 9223372036854775808], .int .i64 3] W fun e w' => e = .returned (.agg #[.int .u64 8, .int .u64 1, .int .u64 0, .int .u64 9223372036854775808]) ∧ Below W.heap.size W w' :=
  badd_any wf_K0 3 W
theorem k_add256 (W : World) : Calls Tryd.prog 11 #[.agg #[.int .u64 8, .int .u64 1, .int .u64 0, .int .u64 9223372036854775808], .int .i64 256] W fun e w' => e = .returned (.agg #[.int .u64 8, .int .u64 1, .int .u64 0, .int .u64 9223372036854775808]) ∧ Below W.heap.size W w' :=
  badd_any wf_K0 256 W
theorem k_del64 (W : World) : Calls Tryd.prog 14 #[.agg #[.int .u64 8, .int .u64 1, .int .u64 0, .int .u64 9223372036854775808], .int .i64 64] W fun e w' => e = .returned (.agg #[.int .u64 8, .int .u64 0, .int .u64 0, .int .u64 9223372036854775808]) ∧ Below W.heap.size W w' :=
  bdel_any wf_K0 64 W
theorem k_and (W : World) : Calls Tryd.prog 22 #[.agg #[.int .u64 8, .int .u64 1, .int .u64 0, .int .u64 9223372036854775808], .agg #[.int .u64 0, .int .u64 1, .int .u64 0, .int .u64 0]] W fun e w' => e = .returned (.agg #[.int .u64 0, .int .u64 1, .int .u64 0, .int .u64 0]) ∧ Below W.heap.size W w' :=
  band_any wf_K0 (wf_mk (by omega) (by omega) (by omega) (by omega) : wfB [0, 1, 0, 0]) W
theorem k_minus (W : World) : Calls Tryd.prog 26 #[.agg #[.int .u64 8, .int .u64 1, .int .u64 0, .int .u64 9223372036854775808], .agg #[.int .u64 0, .int .u64 1, .int .u64 0, .int .u64 0]] W fun e w' => e = .returned (.agg #[.int .u64 8, .int .u64 0, .int .u64 0, .int .u64 9223372036854775808]) ∧ Below W.heap.size W w' :=
  bminus_any wf_K0 (wf_mk (by omega) (by omega) (by omega) (by omega) : wfB [0, 1, 0, 0]) W
theorem k_or (W : World) : Calls Tryd.prog 24 #[.agg #[.int .u64 2, .int .u64 0, .int .u64 0, .int .u64 0], .agg #[.int .u64 4, .int .u64 0, .int .u64 0, .int .u64 0]] W fun e w' => e = .returned (.agg #[.int .u64 6, .int .u64 0, .int .u64 0, .int .u64 0]) ∧ Below W.heap.size W w' :=
  bor_any (wf_mk (by omega) (by omega) (by omega) (by omega) : wfB [2, 0, 0, 0]) (wf_mk (by omega) (by omega) (by omega) (by omega) : wfB [4, 0, 0, 0]) W
theorem k_len (W : World) : Calls Tryd.prog 16 #[.agg #[.int .u64 8, .int .u64 1, .int .u64 0, .int .u64 9223372036854775808]] W fun e w' => e = .returned (.int .i64 3) ∧ Below W.heap.size W w' :=
  blen_any wf_K0 W
end Go.Proofs.YtikoabnonmkhkaaDoor
