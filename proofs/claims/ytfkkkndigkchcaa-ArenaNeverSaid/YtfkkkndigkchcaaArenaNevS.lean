/- What ArenaNever holds: an arena, the row of those that live (maybe cut back in its block), the row of the dead. No condition. -/
import Derived.Test.YtfkkkndigkchcaaArenaNevP
import Derived.Test.YtfkkkndigkchcaaTrailAllocW
namespace Go.Proofs.Ytfkkkndigkchcaa
open Go.RowKit
attribute [local irreducible] Calls

/-- A row of numbers of one's own, or one that was cut back to its first numbers, without room. -/
def LRow (w : World) (base : Nat) (v : Value) (l : List Int) : Prop :=
  IRow w base v l ∨ ∃ g, v = .slice (some ⟨g, 0, none⟩) l.length l.length ∧ base ≤ g ∧ g < w.heap.size ∧ ∀ j u, (l.map (Value.int .i64))[j]? = some u → w.cell? ⟨g, j, none⟩ = some u
section
variable {w w' : World} {base : Nat} {v v' : Value} {l : List Int}
theorem LRow.lt (h : LRow w base v l) : ∀ k, v.ownBlock = some k → base ≤ k ∧ k < w.heap.size := by
  rcases h with h | ⟨g, rfl, h1, h2, _⟩
  · exact World.ownsRow.lt h
  · intro k hk
    injection hk with hk
    subst hk
    exact ⟨h1, h2⟩
theorem LRow.block (h : LRow w base v l) (hk : ∀ k, v.ownBlock = some k → w'.heap[k]? = w.heap[k]?) : LRow w' base v l := by
  rcases h with h | ⟨g, rfl, h1, h2, h3⟩
  · exact .inl (ownsRow_block h hk)
  · have hg := hk g rfl
    have hs : g < w'.heap.size := by
      have : w'.heap[g]? = some (w.heap[g]) := by rw [hg]; exact Array.getElem?_eq_getElem h2
      exact (Array.getElem?_eq_some_iff.1 this).1
    exact .inr ⟨g, rfl, h1, hs, fun j u hj => (World.cell?_of_block (a := ⟨g, j, none⟩) hg).trans (h3 j u hj)⟩
theorem LRow.any (h : LRow w base v l) : ∃ x cap, v = .slice x l.length cap := by
  rcases h with h | ⟨g, rfl, h1, h2, h3⟩
  · exact IRow.any h
  · exact ⟨_, _, rfl⟩
theorem LRow.form (h : LRow w base v l) (hn : 0 < l.length) : ∃ g cap, v = .slice (some ⟨g, 0, none⟩) l.length cap ∧ l.length ≤ cap := by
  rcases h with h | ⟨g, rfl, h1, h2, h3⟩
  · rcases h.2 with ⟨_, h0⟩ | ⟨g, cap, _, hv, _, _, hc, _⟩
    · omega
    · exact ⟨g, cap, hv, hc⟩
  · exact ⟨g, _, rfl, Nat.le_refl _⟩
theorem LRow.cells {g cap : Nat} (h : LRow w base (.slice (some ⟨g, 0, none⟩) l.length cap) l) : ∀ j u, (l.map (Value.int .i64))[j]? = some u → w.cell? ⟨g, j, none⟩ = some u := by
  rcases h with h | ⟨g', e, h1, h2, h3⟩
  · intro j u hj
    have := World.ownsRow.cells h rfl j u hj
    have e0 : (⟨g, 0, none⟩ : Addr).add j = ⟨g, j, none⟩ := by by_cases e : j = 0 <;> simp [Addr.add, e]
    rwa [e0] at this
  · injection e with e1 _ _
    injection e1 with e1
    injection e1 with e1
    subst e1
    exact h3
theorem map_get {l : List Int} {j : Nat} (hj : j < l.length) : (l.map (Value.int .i64))[j]? = some (.int .i64 (l.getD j 0)) := by simp [List.getD_eq_getElem?_getD, hj]
theorem LRow.cell {g cap j : Nat} (h : LRow w base (.slice (some ⟨g, 0, none⟩) l.length cap) l) (hj : j < l.length) : w.cell? ⟨g, j, none⟩ = some (.int .i64 (l.getD j 0)) := h.cells j _ (map_get hj)
/-- Cut back. -/
theorem LRow.cut {g cap k : Nat} (h : LRow w base (.slice (some ⟨g, 0, none⟩) l.length cap) l) (hk : k ≤ l.length) : LRow w base (.slice (some ⟨g, 0, none⟩) k k) (l.take k) := by
  have hlt := h.lt g rfl
  have hl : (l.take k).length = k := by rw [List.length_take]; omega
  refine .inr ⟨g, by rw [hl], hlt.1, hlt.2, fun j u hj => h.cells j u ?_⟩
  rw [List.map_take, List.getElem?_take] at hj
  split at hj
  · exact hj
  · cases hj
end
theorem grown_none {w w' : World} (h : w.grownBy w' none) (r : Option Nat) : w.grownBy w' r := ⟨h.os, h.tape, h.output, h.size, fun k hk _ => h.block k hk (by simp)⟩
theorem ownsRow_base {w : World} {base b2 : Nat} {e : TypeId} {size n : Nat} {v : Value} {xs : List Value} (h : w.ownsRow b2 e size v n xs) (hb : base ≤ b2) : w.ownsRow base e size v n xs := by
  refine ⟨h.1, ?_⟩
  rcases h.2 with hn | ⟨g, cap, cur, hv, hbs, rest⟩
  · exact .inl hn
  · exact .inr ⟨g, cap, cur, hv, by omega, rest⟩
/-- append of one number. -/
theorem wpList_append_lrow {P : Program} (w : World) {ops : Array Oper} {rest : List Oper} {o : Oper} {a : Act} {Q : Exit → Act → World → Prop}
    (hg : o.guard = none) (s x : Operand) (t : TypeId) (hop : o.op = Op.call { callee := Callee.builtin Builtin.append, args := #[s, x], argTypes := #[t, t] })
    (base : Nat) (i : TypeInfo) (z : Value) (bytes : Nat) (h1 : P.underlying t = some (.slice 3)) (h2 : P.info? 3 = some i) (h3 : i.zero = some z) (h4 : i.size = 1) (h5 : i.bytes = bytes) (h6 : z.cells.size = 1)
    (v : Value) (l : List Int) (hs : a.eval s = v) (hown : LRow w base v l)
    (ad : Addr) (c : Nat) (y : Int) (hx : a.eval x = .slice (some ad) 1 c) (hc : ∀ j u, [Value.int .i64 y][j]? = some u → w.cell? (ad.add j) = some u)
    (b1 : l.length + 1 ≤ maxLen) (b2 : (l.length + 1) * bytes ≤ 140737488355328) (hb : base ≤ w.heap.size)
    (hK : ∀ v' w', w'.ownsRow base 3 1 v' (l.length + 1) (l.map (Value.int .i64) ++ [Value.int .i64 y]) → w.grownBy w' v.ownBlock → (∀ k, v'.ownBlock = some k → v.ownBlock = some k ∨ w.heap.size ≤ k) → wpList P ops Q rest (a.put o.dst v') w') :
    wpList P ops Q (o :: rest) a w := by
  rcases hown with hown | ⟨g, rfl, g1, g2, g3⟩
  · exact wpList_append_fresh w hg s x t hop base 3 i z 1 bytes h1 h2 h3 h4 h5 h6 (by decide) v l.length _ hs hown ad 1 c [.int .i64 y] hx rfl hc (by simp [Value.oneCell']) b1 b2 hb hK
  · refine wpList_append_grows w hg s x t hop 3 i z 1 bytes h1 h2 h3 h4 h5 h6 (by decide) (some ⟨g, 0, none⟩) l.length l.length (l.map (Value.int .i64)) hs (fun e => by cases e) (by simp) ?_ ad 1 c [.int .i64 y] hx rfl hc (by simp [Value.oneCell']) (by omega) b1 b2 ?_
    · intro b e j u hj
      injection e with e
      subst e
      have e0 : (⟨g, 0, none⟩ : Addr).add j = ⟨g, j, none⟩ := by by_cases e : j = 0 <;> simp [Addr.add, e]
      rw [e0]
      exact g3 j u hj
    · intro v' w' r1 r2
      exact hK v' w' (ownsRow_base r1 hb) (grown_none r2 _) (fun k hk => .inr (World.ownsRow.lt r1 k hk).1)
/-- 'append(l[:k:k], l[k+1:]...)', where something lies behind k. -/
theorem step_append_rest {P : Program} {ops : Array Oper} {o : Oper} {a : Act} {w : World} {K : Act → World → Prop} {Q : Exit → Act → World → Prop} {E : Prop}
    (hg : o.guard = none) (s x : Operand) (t : TypeId) (hop : o.op = Op.call { callee := Callee.builtin Builtin.append, args := #[s, x], argTypes := #[t, t] })
    (base : Nat) (i : TypeInfo) (z : Value) (bytes : Nat) (h1 : P.underlying t = some (.slice 3)) (h2 : P.info? 3 = some i) (h3 : i.zero = some z) (h4 : i.size = 1) (h5 : i.bytes = bytes) (h6 : z.cells.size = 1)
    (g cap k c : Nat) (l : List Int) (hs : a.eval s = .slice (some ⟨g, 0, none⟩) k k) (hx : a.eval x = .slice (some ⟨g, k + 1, none⟩) (l.length - (k + 1)) c) (hk : k + 1 < l.length)
    (hown : LRow w base (.slice (some ⟨g, 0, none⟩) l.length cap) l)
    (b1 : l.length ≤ maxLen) (b2 : l.length * bytes ≤ 140737488355328)
    (hK : ∀ v' w', w'.ownsRow w.heap.size 3 1 v' (l.length - 1) ((l.take k ++ l.drop (k + 1)).map (Value.int .i64)) → w.grownBy w' none → K (a.put o.dst v') w') :
    if Region.wanted o (yielded ops a.tmps) = true then Oper.wp P o a w K Q else E := by
  have hw : Region.wanted o (yielded ops a.tmps) = true := by simp [Region.wanted, hg]
  rw [if_pos hw]
  have hcells := hown.cells
  obtain ⟨v', w', hrun, r1, r2⟩ := run_append_arg_grows (P := P) w t o.type 3 i z 1 bytes h1 h2 h3 h4 h5 h6 (by decide) ⟨g, 0, none⟩ k k ((l.take k).map (Value.int .i64)) (by rw [List.length_map, List.length_take]; omega)
    (fun j u hj => by
      have e0 : (⟨g, 0, none⟩ : Addr).add j = ⟨g, j, none⟩ := by by_cases e : j = 0 <;> simp [Addr.add, e]
      rw [e0]
      refine hcells j u ?_
      rw [List.map_take, List.getElem?_take] at hj
      split at hj
      · exact hj
      · cases hj) ⟨g, k + 1, none⟩ (l.length - (k + 1)) c ((l.drop (k + 1)).map (Value.int .i64)) (by rw [List.length_map, List.length_drop]; omega)
    (fun j u hj => by
      have e0 : (⟨g, k + 1, none⟩ : Addr).add j = ⟨g, k + 1 + j, none⟩ := by by_cases e : j = 0 <;> simp [Addr.add, e]
      rw [e0]
      refine hcells _ u ?_
      rw [List.map_drop, List.getElem?_drop] at hj
      exact hj) (by omega) (by omega) (by rw [show k + (l.length - (k + 1)) = l.length - 1 by omega]; exact Nat.le_trans (Nat.mul_le_mul_right _ (Nat.sub_le _ _)) b2)
  unfold Oper.wp
  simp [execOp, hop, resolve, invoke, builtin, hs, hx, hrun, Result.andThen]
  refine hK v' w' ?_ r2
  rw [← List.map_append, show k + (l.length - (k + 1)) = l.length - 1 by omega] at r1
  exact r1
/-- .. and where nothing does. -/
theorem step_append_nothing {P : Program} {ops : Array Oper} {o : Oper} {a : Act} {w : World} {K : Act → World → Prop} {Q : Exit → Act → World → Prop} {E : Prop}
    (hg : o.guard = none) (s x : Operand) (t : TypeId) (hop : o.op = Op.call { callee := Callee.builtin Builtin.append, args := #[s, x], argTypes := #[t, t] })
    (e : TypeId) (i : TypeInfo) (h1 : P.underlying t = some (.slice e)) (h2 : P.info? e = some i)
    (b : Addr) (k n c : Nat) (ao : Option Addr) (hs : a.eval s = .slice (some b) k k) (hx : a.eval x = .slice ao n c) (hn : n = 0)
    (hK : K (a.put o.dst (.slice (some b) k k)) w) :
    if Region.wanted o (yielded ops a.tmps) = true then Oper.wp P o a w K Q else E := by
  have hw : Region.wanted o (yielded ops a.tmps) = true := by simp [Region.wanted, hg]
  rw [if_pos hw]
  subst hn
  have hrun : (Builtin.append_ #[t, t] o.type #[.slice (some b) k k, .slice ao 0 c]).run P w = .ok (.slice (some b) k k) w := by
    cases ao <;> simp [Builtin.append_, run_underlying h1, sizeOf, typeInfo, h2, Builtin.lenOf, Builtin.firstCells, storeCells, loadCells, loadCellsFrom]
  unfold Oper.wp
  simp [execOp, hop, resolve, invoke, builtin, hs, hx, hrun, Result.andThen]
  exact hK
end Go.Proofs.Ytfkkkndigkchcaa
