/- Arrays of one's own as blocks; slices that read as lists of numbers. No condition. -/
import Derived.Test.YtcgadmeagbcbnaaDoorLat
import Derived.OwnWalk
import Derived.OneCell
import Derived.Laws.Rows
import Derived.Laws.MakeOwn
import Derived.Laws.OwnMore
import Derived.Maps.AppendAt
namespace Go.Proofs.YtcgadmeagbcbnaaDoor
open Go.RowKit

/-- Block B holds the cells vs, of elements t. -/
def Arr (w : World) (B : Nat) (t : TypeId) (vs : List Value) : Prop := w.heap[B]? = some (.cells vs.toArray t (0, 0))
theorem Arr.lt {w : World} {B : Nat} {t : TypeId} {vs : List Value} (h : Arr w B t vs) : B < w.heap.size := (Array.getElem?_eq_some_iff.1 h).1
theorem Arr.cell {w : World} {B : Nat} {t : TypeId} {vs : List Value} (h : Arr w B t vs) (j : Nat) : w.cell? ⟨B, j, none⟩ = vs[j]? := by
  have h' : w.heap[B]? = _ := h
  simp [World.cell?, h']
theorem Arr.frozen {w : World} {B : Nat} {t : TypeId} {vs : List Value} (h : Arr w B t vs) (j : Nat) : w.frozen? ⟨B, j, none⟩ = false := by
  have h' : w.heap[B]? = _ := h
  simp [World.frozen?, h']
theorem Arr.new (w : World) (t : TypeId) (vs : List Value) : Arr (w.alloc (.cells vs.toArray t)) w.heap.size t vs := heap_alloc_new w _
theorem Arr.alloc {w : World} {B : Nat} {t : TypeId} {vs : List Value} (h : Arr w B t vs) (o : Obj) : Arr (w.alloc o) B t vs := (Below.heap_alloc w o B h.lt).trans h
theorem Arr.below {w w' : World} {B n : Nat} {t : TypeId} {vs : List Value} (h : Arr w B t vs) (hb : Below n w w') (hn : B < n) : Arr w' B t vs := (hb.block B hn).trans h
theorem Arr.kept {w w' : World} {row : Option Nat} {B : Nat} {t : TypeId} {vs : List Value} (h : Arr w B t vs) (hg : w.grownBy w' row) (hne : some B ≠ row) : Arr w' B t vs := (hg.block B h.lt hne).trans h
theorem Arr.set {w : World} {B : Nat} {t : TypeId} {vs : List Value} (h : Arr w B t vs) (j : Nat) (v : Value) : Arr (w.setCell ⟨B, j, none⟩ v) B t (vs.set j v) := by
  have := heap_setCell_same w B j vs.toArray t v h
  simpa [Arr] using this
theorem Arr.set_other {w : World} {B : Nat} {t : TypeId} {vs : List Value} (h : Arr w B t vs) (a : Addr) (v : Value) (hne : B ≠ a.block) : Arr (w.setCell a v) B t vs := (heap_setCell_other w a B v hne).trans h
/-- Of numbers. -/
theorem Arr.int {w : World} {B : Nat} {t : TypeId} {q : IntKind} {l : List Int} (h : Arr w B t (l.map (Value.int q))) {j : Nat} (hj : j < l.length) : w.cell? ⟨B, j, none⟩ = some (.int q (l.getD j 0)) := by
  rw [h.cell]; simp [hj, List.getD_eq_getElem?_getD]
theorem Arr.setInt {w : World} {B : Nat} {t : TypeId} {q : IntKind} {l : List Int} (h : Arr w B t (l.map (Value.int q))) (j : Nat) (v : Int) : Arr (w.setCell ⟨B, j, none⟩ (.int q v)) B t ((l.set j v).map (Value.int q)) := by
  rw [List.map_set]; exact h.set j _
theorem Arr.bool {w : World} {B : Nat} {t : TypeId} {l : List Bool} (h : Arr w B t (l.map Value.bool)) {j : Nat} (hj : j < l.length) : w.cell? ⟨B, j, none⟩ = some (.bool (l.getD j false)) := by
  rw [h.cell]; simp [hj, List.getD_eq_getElem?_getD]
theorem Arr.setBool {w : World} {B : Nat} {t : TypeId} {l : List Bool} (h : Arr w B t (l.map Value.bool)) (j : Nat) (v : Bool) : Arr (w.setCell ⟨B, j, none⟩ (.bool v)) B t ((l.set j v).map Value.bool) := by
  rw [List.map_set]; exact h.set j _
theorem Arr.own {w : World} {base B : Nat} {t : TypeId} {vs : List Value} (h : Arr w B t vs) (hb : base ≤ B) (hl : vs.length ≤ maxLen) : w.ownsRow base t 1 (.slice (some ⟨B, 0, none⟩) vs.length vs.length) vs.length vs :=
  ⟨by simp, .inr ⟨B, vs.length, vs.toArray, rfl, hb, h, Nat.le_refl _, hl, by simp, by simp⟩⟩

/-- The slice value v holds the numbers l; its cells lie below block n. -/
def Ints (w : World) (n : Nat) (v : Value) (l : List Int) : Prop := (l = [] ∧ ∃ a c, v = .slice a 0 c ∧ (a = none → c = 0)) ∨ ∃ b o c, v = .slice (some ⟨b, o, none⟩) l.length c ∧ l.length ≤ c ∧ b < n ∧ ∀ j, j < l.length → w.cell? ⟨b, o + j, none⟩ = some (.int .i64 (l.getD j 0))
theorem Ints.nil (w : World) (n : Nat) : Ints w n (.slice none 0 0) [] := .inl ⟨rfl, none, 0, rfl, fun _ => rfl⟩
theorem Ints.below {w w' : World} {n m : Nat} {v : Value} {l : List Int} (h : Ints w n v l) (hb : Below m w w') (hn : n ≤ m) : Ints w' n v l := by
  rcases h with h | ⟨b, o, c, e, hl, h1, h2⟩
  · exact .inl h
  · exact .inr ⟨b, o, c, e, hl, h1, fun j hj => (hb.cell (p := ⟨b, o + j, none⟩) (by exact Nat.lt_of_lt_of_le h1 hn)).trans (h2 j hj)⟩
theorem Ints.mono {w : World} {n m : Nat} {v : Value} {l : List Int} (h : Ints w n v l) (hn : n ≤ m) : Ints w m v l := by
  rcases h with h | ⟨b, o, c, e, hl, h1, h2⟩
  · exact .inl h
  · exact .inr ⟨b, o, c, e, hl, by omega, h2⟩
theorem Ints.own {w : World} {base n k : Nat} {t : TypeId} {v : Value} {l : List Int} (h : w.ownsRow base t 1 v k (l.map (Value.int .i64))) (hn : w.heap.size ≤ n) : Ints w n v l := by
  have hk : l.length = k := by simpa using h.1
  rcases h.2 with ⟨h1, h2⟩ | ⟨g, cap, cur, hv, hb, hg, hc, hm, hs, htk⟩
  · rw [List.eq_nil_of_length_eq_zero (show l.length = 0 by omega), h1]; exact Ints.nil _ _
  · refine .inr ⟨g, 0, cap, by rw [hk]; exact hv, by omega, by have := (Array.getElem?_eq_some_iff.1 hg).1; omega, fun j hj => ?_⟩
    have h4 : cur[j]? = some (.int .i64 (l.getD j 0)) := by
      have : (cur.toList.take (k * 1))[j]? = (l.map (Value.int .i64))[j]? := by rw [htk]
      rw [List.getElem?_take, if_pos (by omega)] at this
      simp [hj] at this
      simpa [hj] using this
    simp [World.cell?, hg, h4]
theorem Ints.arr {w : World} {B n : Nat} {t : TypeId} {l : List Int} (h : Arr w B t (l.map (Value.int .i64))) (hn : w.heap.size ≤ n) : Ints w n (.slice (some ⟨B, 0, none⟩) l.length l.length) l :=
  .inr ⟨B, 0, l.length, rfl, Nat.le_refl _, by have := h.lt; omega, fun j hj => by rw [Nat.zero_add]; exact h.int hj⟩

/-- make of n elements of one cell: a new block of n zeros. -/
theorem madeCells_one (z : Value) (hz : z.cells = #[z]) (m : Nat) : madeCells z.cells (m * 1) = (List.replicate m z).toArray := by
  rw [hz]
  apply Array.ext
  · simp [madeCells]
  · intro i h1 h2
    simp [madeCells, Nat.mod_one]
theorem run_make_arr {P : Program} (t e : TypeId) (z : Value) (by_ : Nat) (ht : P.underlying t = some (.slice e)) (hi : (P.info? e).map (fun i => (i.zero, i.size, i.bytes)) = some (some z, 1, by_)) (hz : z.cells = #[z])
    (n : Nat) (h : by_ * n ≤ 281474976710656) (h63 : n ≤ 9223372036854775807) (w : World) :
    (Instr.makeSlice t (.int .i64 n) (.int .i64 n)).run P w = .ok (.slice (some ⟨w.heap.size, 0, none⟩) n n) (w.alloc (.cells (List.replicate n z).toArray e)) := by
  obtain ⟨i, hi1, hz0, hz1, hz2⟩ := info_parts hi
  have hb' : (i.bytes : Int) * (n : Int) ≤ 281474976710656 := by
    have h : ((i.bytes * n : Nat) : Int) ≤ 281474976710656 := by rw [hz2]; omega
    rwa [Int.natCast_mul] at h
  have hr := run_make (P := P) w t e i z ht hi1 hz0 .i64 .i64 n n (by omega) (Int.le_refl _) hb' (by omega)
  simp only [Int.toNat_natCast] at hr
  rw [hr, hz1, madeCells_one z hz]

/-- A row of numbers of one's own, in the blocks from base on. -/
def IRow (w : World) (base : Nat) (v : Value) (l : List Int) : Prop := w.ownsRow base 3 1 v l.length (l.map (Value.int .i64))
theorem IRow.nil (w : World) (base : Nat) : IRow w base (.slice none 0 0) [] := World.ownsRow_nil w base _ _
theorem IRow.ints {w : World} {base n : Nat} {v : Value} {l : List Int} (h : IRow w base v l) (hn : w.heap.size ≤ n) : Ints w n v l := Ints.own h hn
theorem IRow.form {w : World} {base : Nat} {v : Value} {l : List Int} (h : IRow w base v l) (hn : 0 < l.length) : ∃ g cap, v = .slice (some ⟨g, 0, none⟩) l.length cap := by
  rcases h.2 with ⟨_, h0⟩ | ⟨g, cap, _, hv, _⟩
  · omega
  · exact ⟨g, cap, hv⟩
theorem IRow.any {w : World} {base : Nat} {v : Value} {l : List Int} (h : IRow w base v l) : ∃ x cap, v = .slice x l.length cap := by
  rcases h.2 with ⟨hv, h0⟩ | ⟨g, cap, _, hv, _⟩
  · exact ⟨none, 0, by rw [h0]; exact hv⟩
  · exact ⟨_, cap, hv⟩
theorem IRow.cell {w : World} {base g n cap : Nat} {l : List Int} (h : IRow w base (.slice (some ⟨g, 0, none⟩) n cap) l) {j : Nat} (hj : j < l.length) : w.cell? ⟨g, j, none⟩ = some (.int .i64 (l.getD j 0)) := by
  have e : n = l.length := by
    rcases h.2 with ⟨hv, _⟩ | ⟨_, _, _, hv, _⟩
    · injection hv with h1 _ _; cases h1
    · injection hv
  subst e
  rw [World.ownsRow.cellAt h j (by omega)]
  simp [hj, List.getD_eq_getElem?_getD]
theorem IRow.frozen {w : World} {base g n cap : Nat} {l : List Int} (h : IRow w base (.slice (some ⟨g, 0, none⟩) n cap) l) (j : Nat) : w.frozen? ⟨g, j, none⟩ = false := by
  have e : n = l.length := by
    rcases h.2 with ⟨hv, _⟩ | ⟨_, _, _, hv, _⟩
    · injection hv with h1 _ _; cases h1
    · injection hv
  subst e
  exact World.ownsRow.frozenAt h j
theorem IRow.base {w : World} {base g n cap : Nat} {l : List Int} (h : IRow w base (.slice (some ⟨g, 0, none⟩) n cap) l) : base ≤ g ∧ g < w.heap.size := World.ownsRow.lt h g rfl
theorem IRow.set {w : World} {base g n cap : Nat} {l : List Int} (h : IRow w base (.slice (some ⟨g, 0, none⟩) n cap) l) (j : Nat) (x : Int) : IRow (w.setCell ⟨g, j, none⟩ (.int .i64 x)) base (.slice (some ⟨g, 0, none⟩) n cap) (l.set j x) := by
  have e : n = l.length := by
    rcases h.2 with ⟨hv, _⟩ | ⟨_, _, _, hv, _⟩
    · injection hv with h1 _ _; cases h1
    · injection hv
  subst e
  have := (World.ownsRow.stored h j (.int .i64 x)).1
  unfold IRow
  rw [List.map_set, List.length_set]
  exact this
theorem IRow.alloc {w : World} {base : Nat} {v : Value} {l : List Int} (h : IRow w base v l) (o : Obj) : IRow (w.alloc o) base v l := World.ownsRow.alloc h o
theorem IRow.below {w w' : World} {base : Nat} {v : Value} {l : List Int} (h : IRow w base v l) (hb : Below w.heap.size w w') : IRow w' base v l := by
  refine ⟨h.1, ?_⟩
  rcases h.2 with hn | ⟨g, cap, cur, hv, hbs, hgg, rest⟩
  · exact .inl hn
  · exact .inr ⟨g, cap, cur, hv, hbs, (hb.block g (Array.getElem?_eq_some_iff.1 hgg).1).trans hgg, rest⟩
theorem IRow.other {w : World} {base : Nat} {v : Value} {l : List Int} (h : IRow w base v l) (a : Addr) (u : Value) (ha : v.ownBlock ≠ some a.block) : IRow (w.setCell a u) base v l := ownsRow_setCell_other h ha u
theorem IRow.kept {w w' : World} {row : Option Nat} {base : Nat} {v : Value} {l : List Int} (h : IRow w base v l) (hg : w.grownBy w' row) (hne : v.ownBlock = none ∨ v.ownBlock ≠ row) : IRow w' base v l := World.ownsRow.kept h hg hne
/-- What an append of one number leaves. -/
theorem IRow.app {w' : World} {base : Nat} {v' : Value} {l : List Int} {x : Int} (hown : w'.ownsRow base 3 1 v' (l.length + 1) (l.map (Value.int .i64) ++ [.int .i64 x])) : IRow w' base v' (l ++ [x]) := by
  unfold IRow
  rw [List.length_append, List.length_singleton, List.map_append, List.map_singleton]
  exact hown
theorem IRow.appBel {a w w' : World} {v : Value} {l : List Int} {o : Obj} (hb : Below a.heap.size a w) (h : IRow w a.heap.size v l) (hg : (w.alloc o).grownBy w' v.ownBlock) : Below a.heap.size a w' :=
  (fb_alloc hb o).grown hg (fb_alloc hb o).size (fun k e => (World.ownsRow.lt h k e).1)
end Go.Proofs.YtcgadmeagbcbnaaDoor
