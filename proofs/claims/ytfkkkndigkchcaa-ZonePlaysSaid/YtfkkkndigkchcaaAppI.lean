/- append of any slice of numbers onto an owned row, of none as of many. No condition. -/
import Derived.Test.YtfkkkndigkchcaaTrailAllocW
import Derived.Test.YtfkkkndigkchcaaTrailMid
namespace Go.Proofs.Ytfkkkndigkchcaa
open Go.RowKit

/-- What a slice of numbers reads as. -/
def SInts (w : World) (ao : Option Addr) (n : Nat) (l : List Int) : Prop := n = l.length ∧ (l = [] ∨ ∃ b o, ao = some ⟨b, o, none⟩ ∧ ∀ j, j < l.length → w.cell? ⟨b, o + j, none⟩ = some (.int .i64 (l.getD j 0)))
theorem SInts.nil (w : World) (ao : Option Addr) : SInts w ao 0 [] := ⟨rfl, .inl rfl⟩
theorem SInts.of {w : World} {m : Nat} {ao : Option Addr} {n c : Nat} {l : List Int} (h : Ints w m (.slice ao n c) l) : SInts w ao n l := by
  obtain ⟨x, c', e, hp⟩ := h.parts
  injection e with e1 e2 _
  subst e1 e2
  exact ⟨rfl, hp.imp id fun ⟨b, o, h1, _, h2⟩ => ⟨b, o, h1, h2⟩⟩
theorem SInts.own {w : World} {base : Nat} {ao : Option Addr} {n c : Nat} {l : List Int} (h : IRow w base (.slice ao n c) l) : SInts w ao n l := SInts.of (h.ints (Nat.le_refl _))
theorem getD_take_lt (l : List Int) {k j : Nat} (h : j < k) : (l.take k).getD j 0 = l.getD j 0 := by
  rw [List.getD_eq_getElem?_getD, List.getElem?_take_of_lt h, List.getD_eq_getElem?_getD]
theorem getD_drop' (l : List Int) (k j : Nat) : (l.drop k).getD j 0 = l.getD (k + j) 0 := by
  rw [List.getD_eq_getElem?_getD, List.getElem?_drop, List.getD_eq_getElem?_getD]
/-- The front of a row, and what is behind it. -/
theorem SInts.take {w : World} {b o n : Nat} {l : List Int} (h : SInts w (some ⟨b, o, none⟩) n l) {k : Nat} (hk : k ≤ n) : SInts w (some ⟨b, o, none⟩) k (l.take k) := by
  obtain ⟨rfl, h⟩ := h
  refine ⟨by rw [List.length_take]; omega, ?_⟩
  rcases h with rfl | ⟨b', o', e, h⟩
  · exact .inl (by simp)
  · injection e with e; injection e with e1 e2 _; subst e1 e2
    exact .inr ⟨b, o, rfl, fun j hj => by
      rw [List.length_take] at hj
      rw [getD_take_lt l (by omega)]; exact h j (by omega)⟩
theorem SInts.drop {w : World} {b o n : Nat} {l : List Int} (h : SInts w (some ⟨b, o, none⟩) n l) {k : Nat} : SInts w (some ⟨b, o + k, none⟩) (n - k) (l.drop k) := by
  obtain ⟨rfl, h⟩ := h
  refine ⟨by rw [List.length_drop], ?_⟩
  rcases h with rfl | ⟨b', o', e, h⟩
  · exact .inl (by simp)
  · injection e with e; injection e with e1 e2 _; subst e1 e2
    exact .inr ⟨b, o + k, rfl, fun j hj => by
      rw [List.length_drop] at hj
      rw [getD_drop', Nat.add_assoc]; exact h (k + j) (by omega)⟩
theorem run_append_ints {w : World} {base : Nat} (ty : TypeId) {v : Value} {l1 : List Int} (h1 : IRow w base v l1) {ao : Option Addr} {n c : Nat} {l2 : List Int} (h2 : SInts w ao n l2)
    (hl : l1.length + l2.length ≤ 1000000000) (hb : base ≤ w.heap.size) :
    ∃ v' w', (Builtin.append_ #[34, 34] ty #[v, .slice ao n c]).run Try.prog w = .ok v' w' ∧ IRow w' base v' (l1 ++ l2) ∧ w.grownBy w' v.ownBlock ∧ ∀ k, v'.ownBlock = some k → v.ownBlock = some k ∨ w.heap.size ≤ k := by
  obtain ⟨i0, hi, hy0, hy1, hy2⟩ := info_parts infoInt
  obtain ⟨rfl, hc⟩ := h2
  rcases hc with rfl | ⟨b, o, rfl, hc⟩
  · refine ⟨v, w, ?_, by rw [List.append_nil]; exact h1, ⟨rfl, rfl, rfl, Nat.le_refl _, fun _ _ _ => rfl⟩, fun k hk => .inl hk⟩
    rcases h1.2 with ⟨rfl, _⟩ | ⟨g, cap, cur, rfl, _, _, hle, _⟩
    · cases ao <;> simp [Builtin.append_, run_underlying Try.underlying34, sizeOf, typeInfo, hi, Builtin.lenOf, Builtin.firstCells, loadCells, loadCellsFrom]
    · have hnlt : ¬ cap < l1.length := by omega
      cases ao <;> simp [Builtin.append_, run_underlying Try.underlying34, sizeOf, typeInfo, hi, Builtin.lenOf, Builtin.firstCells, hnlt, storeCells, loadCells, loadCellsFrom]
  · obtain ⟨v', w', hrun, r1, r2, r3⟩ := run_append_fresh (P := Try.prog) w base 34 ty 3 i0 (.int .i64 0) 1 8 Try.underlying34 hi hy0 hy1 hy2 rfl (by decide) v l1.length _ h1 ⟨b, o, none⟩ l2.length c (l2.map (Value.int .i64)) (by simp)
      (fun j u hj => by
        have hjl : j < l2.length := by
          have := (List.getElem?_eq_some_iff.1 hj).1
          simpa using this
        have e0 : (⟨b, o, none⟩ : Addr).add j = ⟨b, o + j, none⟩ := by by_cases e : j = 0 <;> simp [Addr.add, e]
        rw [e0, hc j hjl]
        simp [hjl] at hj
        simp [List.getD_eq_getElem?_getD, hjl, hj])
      (fun u hu => by obtain ⟨x, _, rfl⟩ := List.mem_map.1 hu; rfl) (by unfold maxLen; omega) (by omega) hb
    refine ⟨v', w', hrun, ?_, r2, r3⟩
    unfold IRow
    rw [List.length_append, List.map_append]
    exact r1
theorem wpList_append_ints {w : World} {ops : Array Oper} {rest : List Oper} {o : Oper} {a : Act} {Q : Exit → Act → World → Prop}
    (hg : o.guard = none) (s x : Operand) (hop : o.op = Op.call { callee := Callee.builtin Builtin.append, args := #[s, x], argTypes := #[34, 34] })
    {base : Nat} {v : Value} {l1 : List Int} (hs : a.eval s = v) (h1 : IRow w base v l1) {ao : Option Addr} {n c : Nat} {l2 : List Int} (hx : a.eval x = .slice ao n c) (h2 : SInts w ao n l2)
    (hl : l1.length + l2.length ≤ 1000000000) (hb : base ≤ w.heap.size)
    (hK : ∀ v' w', IRow w' base v' (l1 ++ l2) → w.grownBy w' v.ownBlock → (∀ k, v'.ownBlock = some k → v.ownBlock = some k ∨ w.heap.size ≤ k) → wpList Try.prog ops Q rest (a.put o.dst v') w') :
    wpList Try.prog ops Q (o :: rest) a w := by
  refine wpList_plain hg fun K hK' => ?_
  obtain ⟨v', w', hrun, r1, r2, r3⟩ := run_append_ints o.type h1 h2 (c := c) hl hb
  unfold Oper.wp
  simp [execOp, hop, resolve, invoke, builtin, hs, hx, hrun, Result.andThen]
  exact hK' _ _ (hK v' w' r1 r2 r3)
theorem step_append_ints {w : World} {ops : Array Oper} {o : Oper} {a : Act} {K : Act → World → Prop} {Q : Exit → Act → World → Prop} {E : Prop}
    (hg : o.guard = none) (s x : Operand) (hop : o.op = Op.call { callee := Callee.builtin Builtin.append, args := #[s, x], argTypes := #[34, 34] })
    {base : Nat} {v : Value} {l1 : List Int} (hs : a.eval s = v) (h1 : IRow w base v l1) {ao : Option Addr} {n c : Nat} {l2 : List Int} (hx : a.eval x = .slice ao n c) (h2 : SInts w ao n l2)
    (hl : l1.length + l2.length ≤ 1000000000) (hb : base ≤ w.heap.size)
    (hK : ∀ v' w', IRow w' base v' (l1 ++ l2) → w.grownBy w' v.ownBlock → (∀ k, v'.ownBlock = some k → v.ownBlock = some k ∨ w.heap.size ≤ k) → K (a.put o.dst v') w') :
    if Region.wanted o (yielded ops a.tmps) = true then Oper.wp Try.prog o a w K Q else E := by
  have hw : Region.wanted o (yielded ops a.tmps) = true := by simp [Region.wanted, hg]
  rw [if_pos hw]
  obtain ⟨v', w', hrun, r1, r2, r3⟩ := run_append_ints o.type h1 h2 (c := c) hl hb
  unfold Oper.wp
  simp [execOp, hop, resolve, invoke, builtin, hs, hx, hrun, Result.andThen]
  exact hK v' w' r1 r2 r3
end Go.Proofs.Ytfkkkndigkchcaa
