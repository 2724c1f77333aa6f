/- Rows of abilities and of cards: appended to, and kept. No condition. -/
import Derived.Test.YtcgadmeagbcbnaaDoorIdxJ
import Derived.Test.YtcgadmeagbcbnaaDoorAppZ
namespace Go.Proofs.YtcgadmeagbcbnaaDoor
open Go.RowKit
attribute [local irreducible] Calls

def abZero : Value := .agg #[.int .i64 0, .int .i64 0, .int .i64 0, .int .i64 0, .int .i64 0, .int .i64 0, .int .i64 0, .bool false, .slice none 0 0, .slice none 0 0, .int .i64 0, .int .i64 0, .int .i64 0]
def cdZero : Value := .agg #[.string "".toUTF8, .int .i64 0, .int .i64 0, .int .i64 0, .int .i64 0, .int .i64 0, .int .i64 0, .int .i64 0, .int .i64 0, .int .i64 0, .slice none 0 0]
theorem infoAb : (Tryd.prog.info? 81).map (fun i => (i.zero, i.size, i.bytes)) = some (some abZero, 13, 136) := by kernel_rfl
theorem infoCd : (Tryd.prog.info? 75).map (fun i => (i.zero, i.size, i.bytes)) = some (some cdZero, 11, 112) := by kernel_rfl
theorem ab_one (q : Int × Int) : ∀ u ∈ abC q, u.oneCell' = true := by intro u hu; simp [abC] at hu; rcases hu with rfl | rfl | rfl | rfl | rfl | rfl <;> rfl
theorem abs_one (l : List (Int × Int)) : ∀ u ∈ l.flatMap abC, u.oneCell' = true := fun u hu => by
  obtain ⟨q, _, h⟩ := List.mem_flatMap.1 hu
  exact ab_one q u h
theorem cd_one {v : Value} (hv : v.oneCell' = true) : ∀ u ∈ cardC v, u.oneCell' = true := by
  intro u hu; simp [cardC] at hu; rcases hu with rfl | rfl | rfl
  · rfl
  · rfl
  · exact hv
theorem own_one {w : World} {base : Nat} {e : TypeId} {size n : Nat} {v : Value} {xs : List Value} (h : w.ownsRow base e size v n xs) : v.oneCell' = true := by
  rcases h.2 with ⟨rfl, _⟩ | ⟨g, cap, cur, rfl, _⟩ <;> rfl
theorem flatMap_len {α : Type} (f : α → List Value) (n : Nat) (hf : ∀ x, (f x).length = n) (l : List α) : (l.flatMap f).length = l.length * n := by
  induction l with
  | nil => simp
  | cons x l ih => rw [List.flatMap_cons, List.length_append, hf, ih, List.length_cons, Nat.succ_mul, Nat.add_comm]
/-- What a block that is known whole holds, as news. -/
theorem news_arr {W : World} {B : Nat} {t : TypeId} {vs : List Value} (h : Arr W B t vs) : ∀ j u, vs[j]? = some u → W.cell? ((⟨B, 0, none⟩ : Addr).add j) = some u := fun j u hu => by
  have e0 : (⟨B, 0, none⟩ : Addr).add j = ⟨B, j, none⟩ := by by_cases e : j = 0 <;> simp [Addr.add, e]
  rw [e0, h.cell]; exact hu
/-- What blocks of one kind of elements hold. -/
def kindOf (W : World) (j : Nat) (t : TypeId) : Prop := ∃ cs f, W.heap[j]? = some (.cells cs t f)
theorem kind_ne {W : World} {i j : Nat} {t t' : TypeId} (h : kindOf W i t) (h' : kindOf W j t') (hne : t ≠ t') : i ≠ j := by
  rintro rfl
  obtain ⟨cs, f, h⟩ := h
  obtain ⟨cs', f', h'⟩ := h'
  rw [h] at h'
  injection h' with h'
  injection h' with _ h'
  exact hne h'
theorem own_kind {w : World} {base : Nat} {e : TypeId} {size n : Nat} {v : Value} {xs : List Value} (h : w.ownsRow base e size v n xs) {k : Nat} (hk : v.ownBlock = some k) : kindOf w k e := by
  rcases h.2 with ⟨rfl, _⟩ | ⟨g, cap, cur, rfl, _, hg, _⟩
  · cases hk
  · injection hk with hk; subst hk; exact ⟨_, _, hg⟩
theorem Arr.kind {W : World} {B : Nat} {t : TypeId} {vs : List Value} (h : Arr W B t vs) : kindOf W B t := ⟨_, _, h⟩
theorem TrS.kinds {w0 w : World} {T : Nat} {O : Nat → Prop} {cs : List Int} {hs : List (Int × Int)} (h : TrS w0 w T O cs hs) {j : Nat} (hj : O j) : ∃ t, kindOf w j t ∧ (t = 70 ∨ t = 3 ∨ t = 97) := by
  obtain ⟨_, _, _, ao, bo, ca, cb, rfl, h4⟩ := h
  rcases hj with rfl | hk | hk
  · exact ⟨_, ⟨_, _, h4.blk⟩, .inl rfl⟩
  · exact ⟨_, own_kind h4.cells (by rw [own_block]; exact hk), .inr (.inl rfl)⟩
  · exact ⟨_, own_kind h4.chs (by rw [own_block]; exact hk), .inr (.inr rfl)⟩
/-- A row of abilities appended to nothing. -/
theorem run_append_ab {w : World} (ty : TypeId) {b2 : Nat} {u : Value} {l : List (Int × Int)} (h : AbRow w b2 u l) (hl : l.length ≤ 1000) :
    ∃ v' w', (Builtin.append_ #[73, 73] ty #[.slice none 0 0, u]).run Tryd.prog w = .ok v' w' ∧ AbRow w' w.heap.size v' l ∧ w.grownBy w' none := by
  obtain ⟨i0, hi, hy0, hy1, hy2⟩ := info_parts infoAb
  by_cases hn : l = []
  · subst hn
    obtain ⟨a, c, rfl, _⟩ := own_form' h
    refine ⟨.slice none 0 0, w, ?_, World.ownsRow_nil _ _ _ _, ⟨rfl, rfl, rfl, Nat.le_refl _, fun _ _ _ => rfl⟩⟩
    cases a <;> simp [Builtin.append_, run_underlying Tryd.underlying73, sizeOf, typeInfo, hi, Builtin.lenOf, Builtin.firstCells, loadCells, loadCellsFrom]
  · have hpos : 0 < l.length := List.length_pos_iff.2 hn
    obtain ⟨g, c, rfl⟩ := own_form h hpos
    obtain ⟨v', w', hrun, r1, r2, _⟩ := run_append_fresh (P := Tryd.prog) w w.heap.size 73 ty 81 i0 abZero 13 136 Tryd.underlying73 hi hy0 hy1 hy2 rfl (by decide) (.slice none 0 0) 0 [] (World.ownsRow_nil _ _ _ _) ⟨g, 0, none⟩ l.length c (l.flatMap abC)
      (flatMap_len abC 13 (fun _ => rfl) l) (World.ownsRow.cells h rfl) (abs_one l) (by unfold maxLen; omega) (by omega) (Nat.le_refl _)
    refine ⟨v', w', hrun, ?_, r2⟩
    rw [Nat.zero_add, List.nil_append] at r1
    exact r1
theorem wpList_append_ab {w : World} {ops : Array Oper} {rest : List Oper} {o : Oper} {a : Act} {Q : Exit → Act → World → Prop}
    (hg : o.guard = none) (s x : Operand) (hop : o.op = Op.call { callee := Callee.builtin Builtin.append, args := #[s, x], argTypes := #[73, 73] })
    (hs : a.eval s = .slice none 0 0) {b2 : Nat} {u : Value} {l : List (Int × Int)} (hx : a.eval x = u) (h : AbRow w b2 u l) (hl : l.length ≤ 1000)
    (hK : ∀ v' w', AbRow w' w.heap.size v' l → w.grownBy w' none → wpList Tryd.prog ops Q rest (a.put o.dst v') w') :
    wpList Tryd.prog ops Q (o :: rest) a w := by
  refine wpList_plain hg fun K hK' => ?_
  obtain ⟨v', w', hrun, r1, r2⟩ := run_append_ab o.type h hl
  unfold Oper.wp
  simp [execOp, hop, resolve, invoke, builtin, hs, hx, hrun, Result.andThen]
  exact hK' _ _ (hK v' w' r1 r2)
theorem AbRow.kept {w w' : World} {base : Nat} {v : Value} {l : List (Int × Int)} {row : Option Nat} (h : AbRow w base v l) (hg : w.grownBy w' row) (hne : ∀ k, v.ownBlock = some k → row ≠ some k) : AbRow w' base v l :=
  ownsRow_block h fun k hk => hg.block k (World.ownsRow.lt h k hk).2 (fun e => hne k hk e.symm)
theorem AbRow.below {w w' : World} {base n : Nat} {v : Value} {l : List (Int × Int)} (h : AbRow w base v l) (hb : Below n w w') (hlt : ∀ k, v.ownBlock = some k → k < n) : AbRow w' base v l :=
  ownsRow_block h fun k hk => hb.block k (hlt k hk)
theorem CdRow.below {w w' : World} {base n : Nat} {v : Value} {vs : List Value} (h : CdRow w base v vs) (hb : Below n w w') (hlt : ∀ k, v.ownBlock = some k → k < n) : CdRow w' base v vs :=
  ownsRow_block h fun k hk => hb.block k (hlt k hk)
theorem AbRow.snoc {w : World} {base : Nat} {v : Value} {l : List (Int × Int)} {q : Int × Int} (h : w.ownsRow base 81 13 v (l.length + 1) (l.flatMap abC ++ abC q)) : AbRow w base v (l ++ [q]) := by
  unfold AbRow
  rw [List.flatMap_append, List.length_append]
  simpa using h
theorem CdRow.snoc {w : World} {base : Nat} {v : Value} {vs : List Value} {u : Value} (h : w.ownsRow base 75 11 v (vs.length + 1) (vs.flatMap cardC ++ cardC u)) : CdRow w base v (vs ++ [u]) := by
  unfold CdRow
  rw [List.flatMap_append, List.length_append]
  simpa using h
end Go.Proofs.YtcgadmeagbcbnaaDoor
