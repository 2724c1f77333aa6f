/- DealKnown: the examples, and others. No condition. -/
import Derived.Test.YtcehclagipdleaaDealH
import Derived.Test.YtcehclagipdleaaOpenS
namespace Go.Proofs.Ytcehclagipdleaa
open Go.ChangeShapes Go.WideShapes Go.ChangeAt Go.RowKit

theorem lit_at1 {W : World} {B : Nat} (x0 : Int) (h : Arr W B 3 [.int .i64 x0]) : Ints W W.heap.size (.slice (some ⟨B, 0, none⟩) 1 1) [x0] := by
  have := Ints.arr (l := [x0]) h (Nat.le_refl _)
  simpa using this
theorem lit_at2 {W : World} {B : Nat} (x0 x1 : Int) (h : Arr W B 3 [.int .i64 x0, .int .i64 x1]) : Ints W W.heap.size (.slice (some ⟨B, 0, none⟩) 2 2) [x0, x1] := by
  have := Ints.arr (l := [x0, x1]) h (Nat.le_refl _)
  simpa using this
theorem lit_at3 {W : World} {B : Nat} (x0 x1 x2 : Int) (h : Arr W B 3 [.int .i64 x0, .int .i64 x1, .int .i64 x2]) : Ints W W.heap.size (.slice (some ⟨B, 0, none⟩) 3 3) [x0, x1, x2] := by
  have := Ints.arr (l := [x0, x1, x2]) h (Nat.le_refl _)
  simpa using this
theorem lit_at4 {W : World} {B : Nat} (x0 x1 x2 x3 : Int) (h : Arr W B 3 [.int .i64 x0, .int .i64 x1, .int .i64 x2, .int .i64 x3]) : Ints W W.heap.size (.slice (some ⟨B, 0, none⟩) 4 4) [x0, x1, x2, x3] := by
  have := Ints.arr (l := [x0, x1, x2, x3]) h (Nat.le_refl _)
  simpa using this

/-- The table's rows, as they lie. -/
def Tbl (W : World) (T : Nat) : Prop := ∀ k, k < 9 → ∃ (n u : Int) (a1 : Option Addr) (k1 c1 : Nat) (a2 : Option Addr) (k2 c2 : Nat) (ds ws : List Int),
  W.cell? ⟨T, k * 4, none⟩ = some (.int .i64 n) ∧ W.cell? ⟨T, k * 4 + 1, none⟩ = some (.slice a1 k1 c1) ∧ W.cell? ⟨T, k * 4 + 1 + 1, none⟩ = some (.slice a2 k2 c2) ∧ W.cell? ⟨T, k * 4 + 1 + 1 + 1, none⟩ = some (.int .i64 u) ∧
  Ints W W.heap.size (.slice a1 k1 c1) ds ∧ Ints W W.heap.size (.slice a2 k2 c2) ws ∧ permOf n ds = ws ∧ (usedOf n ds : Int) = u ∧ ds.length ≤ 1000000
theorem Tbl.below {W W' : World} {T : Nat} (h : Tbl W T) (hT : T < W.heap.size) (hb : Below W.heap.size W W') : Tbl W' T := fun k hk => by
  obtain ⟨n, u, a1, k1, c1, a2, k2, c2, ds, ws, h1, h2, h3, h4, h5, h6, h7, h8, h9⟩ := h k hk
  exact ⟨n, u, a1, k1, c1, a2, k2, c2, ds, ws, (hb.cell (p := ⟨T, _, none⟩) hT).trans h1, (hb.cell (p := ⟨T, _, none⟩) hT).trans h2, (hb.cell (p := ⟨T, _, none⟩) hT).trans h3, (hb.cell (p := ⟨T, _, none⟩) hT).trans h4,
    (h5.below hb (Nat.le_refl _)).mono hb.size, (h6.below hb (Nat.le_refl _)).mono hb.size, h7, h8, h9⟩
set_option maxRecDepth 100000 in
set_option maxHeartbeats 4000000 in
theorem known_tbl (w : World) : Tbl (((((((((((((w.alloc (.cells #[.int .i64 0, .int .i64 0] 3)).alloc (.cells #[.int .i64 1, .int .i64 2, .int .i64 0] 3)).alloc (.cells #[.int .i64 2, .int .i64 1] 3)).alloc (.cells #[.int .i64 0, .int .i64 1, .int .i64 2] 3)).alloc (.cells #[.int .i64 (-1), .int .i64 7] 3)).alloc (.cells #[.int .i64 0, .int .i64 1, .int .i64 2] 3)).alloc (.cells #[.int .i64 1] 3)).alloc (.cells #[.int .i64 3, .int .i64 2, .int .i64 0, .int .i64 1] 3)).alloc (.cells #[.int .i64 5] 3)).alloc (.cells #[.int .i64 0] 3)).alloc (.cells #[.int .i64 5] 3)).alloc (.cells #[.int .i64 1, .int .i64 0] 3)).alloc (.cells #[.int .i64 3, .slice (some ⟨w.heap.size, 0, none⟩) 2 2, .slice (some ⟨w.heap.size + 1, 0, none⟩) 3 3, .int .i64 2, .int .i64 3, .slice (some ⟨w.heap.size + 1 + 1, 0, none⟩) 2 2, .slice (some ⟨w.heap.size + 1 + 1 + 1, 0, none⟩) 3 3, .int .i64 2, .int .i64 3, .slice (some ⟨w.heap.size + 1 + 1 + 1 + 1, 0, none⟩) 2 2, .slice (some ⟨w.heap.size + 1 + 1 + 1 + 1 + 1, 0, none⟩) 3 3, .int .i64 2, .int .i64 4, .slice (some ⟨w.heap.size + 1 + 1 + 1 + 1 + 1 + 1, 0, none⟩) 1 1, .slice (some ⟨w.heap.size + 1 + 1 + 1 + 1 + 1 + 1 + 1, 0, none⟩) 4 4, .int .i64 1, .int .i64 1, .slice (some ⟨w.heap.size + 1 + 1 + 1 + 1 + 1 + 1 + 1 + 1, 0, none⟩) 1 1, .slice (some ⟨w.heap.size + 1 + 1 + 1 + 1 + 1 + 1 + 1 + 1 + 1, 0, none⟩) 1 1, .int .i64 0, .int .i64 0, .slice (some ⟨w.heap.size + 1 + 1 + 1 + 1 + 1 + 1 + 1 + 1 + 1 + 1, 0, none⟩) 1 1, .slice none 0 0, .int .i64 0, .int .i64 (-1), .slice none 0 0, .slice none 0 0, .int .i64 0, .int .i64 4097, .slice none 0 0, .slice none 0 0, .int .i64 0, .int .i64 2, .slice none 0 0, .slice (some ⟨w.heap.size + 1 + 1 + 1 + 1 + 1 + 1 + 1 + 1 + 1 + 1 + 1, 0, none⟩) 2 2, .int .i64 0] 31)) (w.heap.size + 1 + 1 + 1 + 1 + 1 + 1 + 1 + 1 + 1 + 1 + 1 + 1) := by
  have b0 := Arr.new w 3 [.int .i64 0, .int .i64 0]
  have b1 := Arr.new (w.alloc (.cells #[.int .i64 0, .int .i64 0] 3)) 3 [.int .i64 1, .int .i64 2, .int .i64 0]
  have b2 := Arr.new ((w.alloc (.cells #[.int .i64 0, .int .i64 0] 3)).alloc (.cells #[.int .i64 1, .int .i64 2, .int .i64 0] 3)) 3 [.int .i64 2, .int .i64 1]
  have b3 := Arr.new (((w.alloc (.cells #[.int .i64 0, .int .i64 0] 3)).alloc (.cells #[.int .i64 1, .int .i64 2, .int .i64 0] 3)).alloc (.cells #[.int .i64 2, .int .i64 1] 3)) 3 [.int .i64 0, .int .i64 1, .int .i64 2]
  have b4 := Arr.new ((((w.alloc (.cells #[.int .i64 0, .int .i64 0] 3)).alloc (.cells #[.int .i64 1, .int .i64 2, .int .i64 0] 3)).alloc (.cells #[.int .i64 2, .int .i64 1] 3)).alloc (.cells #[.int .i64 0, .int .i64 1, .int .i64 2] 3)) 3 [.int .i64 (-1), .int .i64 7]
  have b5 := Arr.new (((((w.alloc (.cells #[.int .i64 0, .int .i64 0] 3)).alloc (.cells #[.int .i64 1, .int .i64 2, .int .i64 0] 3)).alloc (.cells #[.int .i64 2, .int .i64 1] 3)).alloc (.cells #[.int .i64 0, .int .i64 1, .int .i64 2] 3)).alloc (.cells #[.int .i64 (-1), .int .i64 7] 3)) 3 [.int .i64 0, .int .i64 1, .int .i64 2]
  have b6 := Arr.new ((((((w.alloc (.cells #[.int .i64 0, .int .i64 0] 3)).alloc (.cells #[.int .i64 1, .int .i64 2, .int .i64 0] 3)).alloc (.cells #[.int .i64 2, .int .i64 1] 3)).alloc (.cells #[.int .i64 0, .int .i64 1, .int .i64 2] 3)).alloc (.cells #[.int .i64 (-1), .int .i64 7] 3)).alloc (.cells #[.int .i64 0, .int .i64 1, .int .i64 2] 3)) 3 [.int .i64 1]
  have b7 := Arr.new (((((((w.alloc (.cells #[.int .i64 0, .int .i64 0] 3)).alloc (.cells #[.int .i64 1, .int .i64 2, .int .i64 0] 3)).alloc (.cells #[.int .i64 2, .int .i64 1] 3)).alloc (.cells #[.int .i64 0, .int .i64 1, .int .i64 2] 3)).alloc (.cells #[.int .i64 (-1), .int .i64 7] 3)).alloc (.cells #[.int .i64 0, .int .i64 1, .int .i64 2] 3)).alloc (.cells #[.int .i64 1] 3)) 3 [.int .i64 3, .int .i64 2, .int .i64 0, .int .i64 1]
  have b8 := Arr.new ((((((((w.alloc (.cells #[.int .i64 0, .int .i64 0] 3)).alloc (.cells #[.int .i64 1, .int .i64 2, .int .i64 0] 3)).alloc (.cells #[.int .i64 2, .int .i64 1] 3)).alloc (.cells #[.int .i64 0, .int .i64 1, .int .i64 2] 3)).alloc (.cells #[.int .i64 (-1), .int .i64 7] 3)).alloc (.cells #[.int .i64 0, .int .i64 1, .int .i64 2] 3)).alloc (.cells #[.int .i64 1] 3)).alloc (.cells #[.int .i64 3, .int .i64 2, .int .i64 0, .int .i64 1] 3)) 3 [.int .i64 5]
  have b9 := Arr.new (((((((((w.alloc (.cells #[.int .i64 0, .int .i64 0] 3)).alloc (.cells #[.int .i64 1, .int .i64 2, .int .i64 0] 3)).alloc (.cells #[.int .i64 2, .int .i64 1] 3)).alloc (.cells #[.int .i64 0, .int .i64 1, .int .i64 2] 3)).alloc (.cells #[.int .i64 (-1), .int .i64 7] 3)).alloc (.cells #[.int .i64 0, .int .i64 1, .int .i64 2] 3)).alloc (.cells #[.int .i64 1] 3)).alloc (.cells #[.int .i64 3, .int .i64 2, .int .i64 0, .int .i64 1] 3)).alloc (.cells #[.int .i64 5] 3)) 3 [.int .i64 0]
  have b10 := Arr.new ((((((((((w.alloc (.cells #[.int .i64 0, .int .i64 0] 3)).alloc (.cells #[.int .i64 1, .int .i64 2, .int .i64 0] 3)).alloc (.cells #[.int .i64 2, .int .i64 1] 3)).alloc (.cells #[.int .i64 0, .int .i64 1, .int .i64 2] 3)).alloc (.cells #[.int .i64 (-1), .int .i64 7] 3)).alloc (.cells #[.int .i64 0, .int .i64 1, .int .i64 2] 3)).alloc (.cells #[.int .i64 1] 3)).alloc (.cells #[.int .i64 3, .int .i64 2, .int .i64 0, .int .i64 1] 3)).alloc (.cells #[.int .i64 5] 3)).alloc (.cells #[.int .i64 0] 3)) 3 [.int .i64 5]
  have b11 := Arr.new (((((((((((w.alloc (.cells #[.int .i64 0, .int .i64 0] 3)).alloc (.cells #[.int .i64 1, .int .i64 2, .int .i64 0] 3)).alloc (.cells #[.int .i64 2, .int .i64 1] 3)).alloc (.cells #[.int .i64 0, .int .i64 1, .int .i64 2] 3)).alloc (.cells #[.int .i64 (-1), .int .i64 7] 3)).alloc (.cells #[.int .i64 0, .int .i64 1, .int .i64 2] 3)).alloc (.cells #[.int .i64 1] 3)).alloc (.cells #[.int .i64 3, .int .i64 2, .int .i64 0, .int .i64 1] 3)).alloc (.cells #[.int .i64 5] 3)).alloc (.cells #[.int .i64 0] 3)).alloc (.cells #[.int .i64 5] 3)) 3 [.int .i64 1, .int .i64 0]
  simp only [World.size_alloc] at b1 b2 b3 b4 b5 b6 b7 b8 b9 b10 b11
  intro k hk
  match k, hk with
  | 0, _ => exact ⟨3, 2, (some ⟨w.heap.size, 0, none⟩), 2, 2, (some ⟨w.heap.size + 1, 0, none⟩), 3, 3, [0, 0], [1, 2, 0], by go_simp, by go_simp, by go_simp, by go_simp, lit_at2 0 0 ((((((((((((Arr.alloc (b0) _).alloc _).alloc _).alloc _).alloc _).alloc _).alloc _).alloc _).alloc _).alloc _).alloc _).alloc _), lit_at3 1 2 0 (((((((((((Arr.alloc (b1) _).alloc _).alloc _).alloc _).alloc _).alloc _).alloc _).alloc _).alloc _).alloc _).alloc _), by decide, by decide, by simp⟩
  | 1, _ => exact ⟨3, 2, (some ⟨w.heap.size + 1 + 1, 0, none⟩), 2, 2, (some ⟨w.heap.size + 1 + 1 + 1, 0, none⟩), 3, 3, [2, 1], [0, 1, 2], by go_simp, by go_simp, by go_simp, by go_simp, lit_at2 2 1 ((((((((((Arr.alloc (b2) _).alloc _).alloc _).alloc _).alloc _).alloc _).alloc _).alloc _).alloc _).alloc _), lit_at3 0 1 2 (((((((((Arr.alloc (b3) _).alloc _).alloc _).alloc _).alloc _).alloc _).alloc _).alloc _).alloc _), by decide, by decide, by simp⟩
  | 2, _ => exact ⟨3, 2, (some ⟨w.heap.size + 1 + 1 + 1 + 1, 0, none⟩), 2, 2, (some ⟨w.heap.size + 1 + 1 + 1 + 1 + 1, 0, none⟩), 3, 3, [-1, 7], [0, 1, 2], by go_simp, by go_simp, by go_simp, by go_simp, lit_at2 (-1) 7 ((((((((Arr.alloc (b4) _).alloc _).alloc _).alloc _).alloc _).alloc _).alloc _).alloc _), lit_at3 0 1 2 (((((((Arr.alloc (b5) _).alloc _).alloc _).alloc _).alloc _).alloc _).alloc _), by decide, by decide, by simp⟩
  | 3, _ => exact ⟨4, 1, (some ⟨w.heap.size + 1 + 1 + 1 + 1 + 1 + 1, 0, none⟩), 1, 1, (some ⟨w.heap.size + 1 + 1 + 1 + 1 + 1 + 1 + 1, 0, none⟩), 4, 4, [1], [3, 2, 0, 1], by go_simp, by go_simp, by go_simp, by go_simp, lit_at1 1 ((((((Arr.alloc (b6) _).alloc _).alloc _).alloc _).alloc _).alloc _), lit_at4 3 2 0 1 (((((Arr.alloc (b7) _).alloc _).alloc _).alloc _).alloc _), by decide, by decide, by simp⟩
  | 4, _ => exact ⟨1, 0, (some ⟨w.heap.size + 1 + 1 + 1 + 1 + 1 + 1 + 1 + 1, 0, none⟩), 1, 1, (some ⟨w.heap.size + 1 + 1 + 1 + 1 + 1 + 1 + 1 + 1 + 1, 0, none⟩), 1, 1, [5], [0], by go_simp, by go_simp, by go_simp, by go_simp, lit_at1 5 ((((Arr.alloc (b8) _).alloc _).alloc _).alloc _), lit_at1 0 (((Arr.alloc (b9) _).alloc _).alloc _), by decide, by decide, by simp⟩
  | 5, _ => exact ⟨0, 0, (some ⟨w.heap.size + 1 + 1 + 1 + 1 + 1 + 1 + 1 + 1 + 1 + 1, 0, none⟩), 1, 1, none, 0, 0, [5], [], by go_simp, by go_simp, by go_simp, by go_simp, lit_at1 5 ((Arr.alloc (b10) _).alloc _), Ints.nil _ _, by decide, by decide, by simp⟩
  | 6, _ => exact ⟨-1, 0, none, 0, 0, none, 0, 0, [], [], by go_simp, by go_simp, by go_simp, by go_simp, Ints.nil _ _, Ints.nil _ _, by decide, by decide, by simp⟩
  | 7, _ => exact ⟨4097, 0, none, 0, 0, none, 0, 0, [], [], by go_simp, by go_simp, by go_simp, by go_simp, Ints.nil _ _, Ints.nil _ _, by decide, by decide, by simp⟩
  | 8, _ => exact ⟨2, 0, none, 0, 0, (some ⟨w.heap.size + 1 + 1 + 1 + 1 + 1 + 1 + 1 + 1 + 1 + 1 + 1, 0, none⟩), 2, 2, [], [1, 0], by go_simp, by go_simp, by go_simp, by go_simp, Ints.nil _ _, lit_at2 1 0 (Arr.alloc (b11) _), by decide, by decide, by simp⟩

theorem Ints.emp {w : World} {n : Nat} {v : Value} (h : Ints w n v []) : ∃ a c, v = .slice a 0 c := by
  obtain ⟨a, c, e, _⟩ := h.parts
  exact ⟨a, c, e⟩

theorem permOf_leK (n : Int) (ds : List Int) : (permOf n ds).length ≤ 1000000 := by
  unfold permOf
  split
  · rw [prm_len, ids_len]; omega
  · simp
theorem ints_arr1 (w : World) (x : Int) : Ints (w.alloc (.cells #[.int .i64 x] 3)) (w.heap.size + 1) (.slice (some ⟨w.heap.size, 0, none⟩) 1 1) [x] := by
  have := Ints.arr (l := [x]) (n := w.heap.size + 1) (Arr.new w 3 ([x].map (Value.int .i64))) (by simp)
  simpa using this
theorem turned_two (x y p q : Int) (w : World) (h : turnOf [x, y] [p, q] = []) : Calls Try.prog 12 #[.slice (some ⟨w.heap.size, 0, none⟩) 2 2, .slice (some ⟨w.heap.size + 1, 0, none⟩) 2 2] ((w.alloc (.cells #[.int .i64 x, .int .i64 y] 3)).alloc (.cells #[.int .i64 p, .int .i64 q] 3))
    fun e w' => (∃ a c, e = .returned (.slice a 0 c)) ∧ Below w.heap.size w w' := by
  refine (turned_any (w.heap.size + 1 + 1) _ _ [x, y] [p, q] _ (ints_up (ints_lit2 w x y) _ (by omega)) (by have := ints_lit2 (w.alloc (.cells #[.int .i64 x, .int .i64 y] 3)) p q; simpa using this) (by simp) (by simp)).mono ?_
  rintro e w' ⟨v, rfl, hv, hb⟩
  rw [h] at hv
  obtain ⟨a, c, rfl⟩ := hv.emp
  exact ⟨⟨a, c, rfl⟩, fb_call (fb_alloc (fb_alloc (Below.refl _ w) _) _) hb⟩
theorem turned_one (x y p : Int) (w : World) (h : turnOf [x, y] [p] = []) : Calls Try.prog 12 #[.slice (some ⟨w.heap.size, 0, none⟩) 2 2, .slice (some ⟨w.heap.size + 1, 0, none⟩) 1 1] ((w.alloc (.cells #[.int .i64 x, .int .i64 y] 3)).alloc (.cells #[.int .i64 p] 3))
    fun e w' => (∃ a c, e = .returned (.slice a 0 c)) ∧ Below w.heap.size w w' := by
  refine (turned_any (w.heap.size + 1 + 1) _ _ [x, y] [p] _ (ints_up (ints_lit2 w x y) _ (by omega)) (by have := ints_arr1 (w.alloc (.cells #[.int .i64 x, .int .i64 y] 3)) p; simpa using this) (by simp) (by simp)).mono ?_
  rintro e w' ⟨v, rfl, hv, hb⟩
  rw [h] at hv
  obtain ⟨a, c, rfl⟩ := hv.emp
  exact ⟨⟨a, c, rfl⟩, fb_call (fb_alloc (fb_alloc (Below.refl _ w) _) _) hb⟩

set_option maxRecDepth 100000 in
set_option maxHeartbeats 4000000 in
theorem dealKnown_walk (w : World) : Calls Try.prog 7 #[] w fun e w' => e = .returned (.bool true) ∧ Below w.heap.size w w' := by
  have hT := known_tbl w
  have hB : Below w.heap.size w (((((((((((((w.alloc (.cells #[.int .i64 0, .int .i64 0] 3)).alloc (.cells #[.int .i64 1, .int .i64 2, .int .i64 0] 3)).alloc (.cells #[.int .i64 2, .int .i64 1] 3)).alloc (.cells #[.int .i64 0, .int .i64 1, .int .i64 2] 3)).alloc (.cells #[.int .i64 (-1), .int .i64 7] 3)).alloc (.cells #[.int .i64 0, .int .i64 1, .int .i64 2] 3)).alloc (.cells #[.int .i64 1] 3)).alloc (.cells #[.int .i64 3, .int .i64 2, .int .i64 0, .int .i64 1] 3)).alloc (.cells #[.int .i64 5] 3)).alloc (.cells #[.int .i64 0] 3)).alloc (.cells #[.int .i64 5] 3)).alloc (.cells #[.int .i64 1, .int .i64 0] 3)).alloc (.cells #[.int .i64 3, .slice (some ⟨w.heap.size, 0, none⟩) 2 2, .slice (some ⟨w.heap.size + 1, 0, none⟩) 3 3, .int .i64 2, .int .i64 3, .slice (some ⟨w.heap.size + 1 + 1, 0, none⟩) 2 2, .slice (some ⟨w.heap.size + 1 + 1 + 1, 0, none⟩) 3 3, .int .i64 2, .int .i64 3, .slice (some ⟨w.heap.size + 1 + 1 + 1 + 1, 0, none⟩) 2 2, .slice (some ⟨w.heap.size + 1 + 1 + 1 + 1 + 1, 0, none⟩) 3 3, .int .i64 2, .int .i64 4, .slice (some ⟨w.heap.size + 1 + 1 + 1 + 1 + 1 + 1, 0, none⟩) 1 1, .slice (some ⟨w.heap.size + 1 + 1 + 1 + 1 + 1 + 1 + 1, 0, none⟩) 4 4, .int .i64 1, .int .i64 1, .slice (some ⟨w.heap.size + 1 + 1 + 1 + 1 + 1 + 1 + 1 + 1, 0, none⟩) 1 1, .slice (some ⟨w.heap.size + 1 + 1 + 1 + 1 + 1 + 1 + 1 + 1 + 1, 0, none⟩) 1 1, .int .i64 0, .int .i64 0, .slice (some ⟨w.heap.size + 1 + 1 + 1 + 1 + 1 + 1 + 1 + 1 + 1 + 1, 0, none⟩) 1 1, .slice none 0 0, .int .i64 0, .int .i64 (-1), .slice none 0 0, .slice none 0 0, .int .i64 0, .int .i64 4097, .slice none 0 0, .slice none 0 0, .int .i64 0, .int .i64 2, .slice none 0 0, .slice (some ⟨w.heap.size + 1 + 1 + 1 + 1 + 1 + 1 + 1 + 1 + 1 + 1 + 1, 0, none⟩) 2 2, .int .i64 0] 31)) := (by repeat (first | exact Below.refl _ _ | refine fb_alloc ?_ _))
  have hL : w.heap.size + 1 + 1 + 1 + 1 + 1 + 1 + 1 + 1 + 1 + 1 + 1 + 1 < (((((((((((((w.alloc (.cells #[.int .i64 0, .int .i64 0] 3)).alloc (.cells #[.int .i64 1, .int .i64 2, .int .i64 0] 3)).alloc (.cells #[.int .i64 2, .int .i64 1] 3)).alloc (.cells #[.int .i64 0, .int .i64 1, .int .i64 2] 3)).alloc (.cells #[.int .i64 (-1), .int .i64 7] 3)).alloc (.cells #[.int .i64 0, .int .i64 1, .int .i64 2] 3)).alloc (.cells #[.int .i64 1] 3)).alloc (.cells #[.int .i64 3, .int .i64 2, .int .i64 0, .int .i64 1] 3)).alloc (.cells #[.int .i64 5] 3)).alloc (.cells #[.int .i64 0] 3)).alloc (.cells #[.int .i64 5] 3)).alloc (.cells #[.int .i64 1, .int .i64 0] 3)).alloc (.cells #[.int .i64 3, .slice (some ⟨w.heap.size, 0, none⟩) 2 2, .slice (some ⟨w.heap.size + 1, 0, none⟩) 3 3, .int .i64 2, .int .i64 3, .slice (some ⟨w.heap.size + 1 + 1, 0, none⟩) 2 2, .slice (some ⟨w.heap.size + 1 + 1 + 1, 0, none⟩) 3 3, .int .i64 2, .int .i64 3, .slice (some ⟨w.heap.size + 1 + 1 + 1 + 1, 0, none⟩) 2 2, .slice (some ⟨w.heap.size + 1 + 1 + 1 + 1 + 1, 0, none⟩) 3 3, .int .i64 2, .int .i64 4, .slice (some ⟨w.heap.size + 1 + 1 + 1 + 1 + 1 + 1, 0, none⟩) 1 1, .slice (some ⟨w.heap.size + 1 + 1 + 1 + 1 + 1 + 1 + 1, 0, none⟩) 4 4, .int .i64 1, .int .i64 1, .slice (some ⟨w.heap.size + 1 + 1 + 1 + 1 + 1 + 1 + 1 + 1, 0, none⟩) 1 1, .slice (some ⟨w.heap.size + 1 + 1 + 1 + 1 + 1 + 1 + 1 + 1 + 1, 0, none⟩) 1 1, .int .i64 0, .int .i64 0, .slice (some ⟨w.heap.size + 1 + 1 + 1 + 1 + 1 + 1 + 1 + 1 + 1 + 1, 0, none⟩) 1 1, .slice none 0 0, .int .i64 0, .int .i64 (-1), .slice none 0 0, .slice none 0 0, .int .i64 0, .int .i64 4097, .slice none 0 0, .slice none 0 0, .int .i64 0, .int .i64 2, .slice none 0 0, .slice (some ⟨w.heap.size + 1 + 1 + 1 + 1 + 1 + 1 + 1 + 1 + 1 + 1 + 1, 0, none⟩) 2 2, .int .i64 0] 31)).heap.size := by simp
  obtain ⟨W1, hW1⟩ : ∃ W1, (((((((((((((w.alloc (.cells #[.int .i64 0, .int .i64 0] 3)).alloc (.cells #[.int .i64 1, .int .i64 2, .int .i64 0] 3)).alloc (.cells #[.int .i64 2, .int .i64 1] 3)).alloc (.cells #[.int .i64 0, .int .i64 1, .int .i64 2] 3)).alloc (.cells #[.int .i64 (-1), .int .i64 7] 3)).alloc (.cells #[.int .i64 0, .int .i64 1, .int .i64 2] 3)).alloc (.cells #[.int .i64 1] 3)).alloc (.cells #[.int .i64 3, .int .i64 2, .int .i64 0, .int .i64 1] 3)).alloc (.cells #[.int .i64 5] 3)).alloc (.cells #[.int .i64 0] 3)).alloc (.cells #[.int .i64 5] 3)).alloc (.cells #[.int .i64 1, .int .i64 0] 3)).alloc (.cells #[.int .i64 3, .slice (some ⟨w.heap.size, 0, none⟩) 2 2, .slice (some ⟨w.heap.size + 1, 0, none⟩) 3 3, .int .i64 2, .int .i64 3, .slice (some ⟨w.heap.size + 1 + 1, 0, none⟩) 2 2, .slice (some ⟨w.heap.size + 1 + 1 + 1, 0, none⟩) 3 3, .int .i64 2, .int .i64 3, .slice (some ⟨w.heap.size + 1 + 1 + 1 + 1, 0, none⟩) 2 2, .slice (some ⟨w.heap.size + 1 + 1 + 1 + 1 + 1, 0, none⟩) 3 3, .int .i64 2, .int .i64 4, .slice (some ⟨w.heap.size + 1 + 1 + 1 + 1 + 1 + 1, 0, none⟩) 1 1, .slice (some ⟨w.heap.size + 1 + 1 + 1 + 1 + 1 + 1 + 1, 0, none⟩) 4 4, .int .i64 1, .int .i64 1, .slice (some ⟨w.heap.size + 1 + 1 + 1 + 1 + 1 + 1 + 1 + 1, 0, none⟩) 1 1, .slice (some ⟨w.heap.size + 1 + 1 + 1 + 1 + 1 + 1 + 1 + 1 + 1, 0, none⟩) 1 1, .int .i64 0, .int .i64 0, .slice (some ⟨w.heap.size + 1 + 1 + 1 + 1 + 1 + 1 + 1 + 1 + 1 + 1, 0, none⟩) 1 1, .slice none 0 0, .int .i64 0, .int .i64 (-1), .slice none 0 0, .slice none 0 0, .int .i64 0, .int .i64 4097, .slice none 0 0, .slice none 0 0, .int .i64 0, .int .i64 2, .slice none 0 0, .slice (some ⟨w.heap.size + 1 + 1 + 1 + 1 + 1 + 1 + 1 + 1 + 1 + 1 + 1, 0, none⟩) 2 2, .int .i64 0] 31)) = W1 := ⟨_, rfl⟩
  rw [hW1] at hT hB hL
  have HW := Lib.hid hW1
  have HT := Lib.hid (And.intro hT (And.intro hL hB))
  clear hW1 hT hL hB
  go_enter Try.func7, Try.ntmps7
  go_wp2
  rw [HW.out]
  obtain ⟨T, hTT⟩ : ∃ T, w.heap.size + 1 + 1 + 1 + 1 + 1 + 1 + 1 + 1 + 1 + 1 + 1 + 1 = T := ⟨_, rfl⟩
  rw [hTT] at HT ⊢
  clear hTT HW
  go_loopw [30] (fun i wr => ∃ k : Nat, k ≤ 9 ∧ i = .int .i64 k ∧ Below W1.heap.size W1 wr) (fun i _ => 9 - (intOf i).toNat)
  case atStart => exact ⟨0, by omega, rfl, Below.refl _ _⟩
  case round =>
    obtain ⟨k, hk, rfl, hbel⟩ := hrel
    by_cases hlt : k < 9
    · obtain ⟨n, u, a1, k1, c1, a2, k2, c2, ds, ws, h1, h2, h3, h4, h5, h6, h7, h8, h9⟩ := (HT.out.1.below HT.out.2.1 hbel) k hlt
      subst h8
      have HH := Lib.hid (And.intro h5 (And.intro h6 (And.intro h7 h9)))
      have hTl : T < wr.heap.size := Nat.lt_of_lt_of_le HT.out.2.1 hbel.size
      have HB := Lib.hid hbel
      clear h5 h6 h7 h9 hbel
      go_wp2_with fail
      refine (perm_any _ _ ds _ ((HH.out.1.below ((Below.refl _ wr).alloc (Nat.le_refl _) _) (Nat.le_refl _)).mono (by simp)) HH.out.2.2.2).mono ?_
      rintro e w1 ⟨v, rfl, hv, hb1⟩
      rw [HH.out.2.2.1] at hv
      have d2 : w1.cell? ⟨wr.heap.size, 2, none⟩ = some (.slice a2 k2 c2) := (hb1.cell (p := ⟨wr.heap.size, 2, none⟩) (by simp)).trans (by simp)
      have d3 : w1.cell? ⟨wr.heap.size, 3, none⟩ = some (.int .i64 (usedOf n ds : Nat)) := (hb1.cell (p := ⟨wr.heap.size, 3, none⟩) (by simp)).trans (by simp)
      have HV := Lib.hid (And.intro hv hb1)
      have hbl := fb_call (fb_alloc (Below.refl _ wr) _) hb1
      have HBL := Lib.hid hbl
      clear hv hb1 hbl
      go_wp2_with fail
      refine (alike_any w1.heap.size v _ ws ws _ HV.out.1 ((HH.out.2.1.below HBL.out (Nat.le_refl _)).mono HBL.out.size) (by rw [← HH.out.2.2.1]; exact permOf_leK _ _)).mono ?_
      rintro e w2 ⟨rfl, hb2⟩
      have d4 : w2.cell? ⟨wr.heap.size, 3, none⟩ = some (.int .i64 (usedOf n ds : Nat)) := (hb2.cell (p := ⟨wr.heap.size, 3, none⟩) (by have := HBL.out.size; have := HV.out.2.size; simp at this; exact this)).trans d3
      have HB2 := Lib.hid (fb_call HBL.out hb2)
      rw [alk_same]
      clear hb2 d2 d3
      go_wp2
      go_roundw
      case rel => exact ⟨k + 1, by omega, by go_num, fb_call HB.out HB2.out⟩
      case measure => simp [intOf]; omega
    · obtain rfl : k = 9 := by omega
      clear hlt hk
      go_wp2_with fail
      refine (perm_any 4096 _ [] _ (Ints.nil _ _) (by simp)).mono ?_
      rintro e w1 ⟨v, rfl, hv, hb1⟩
      have hl4 : (permOf 4096 []).length = 4096 := by
        have := (permOf_nat 4096 (by omega) (by omega) []).1
        have e : permOf 4096 [] = prm (4096 - 1) (ids 4096) [] := this
        rw [e, prm_len, ids_len]
      obtain ⟨va, vc, hve, _⟩ := hv.parts
      rw [hl4] at hve
      subst hve
      rw [show usedOf 4096 [] = 0 from by decide]
      have HB1 := Lib.hid hb1
      have HB := Lib.hid hbel
      clear hl4 hv hb1 hbel
      go_wp2_with fail
      refine (turned_two 7 8 0 0 _ (by decide)).mono ?_
      rintro e w2 ⟨⟨xa, xc, rfl⟩, hb2⟩
      have HB2 := Lib.hid hb2
      clear hb2
      go_wp2_with fail
      refine (turned_one 7 8 0 _ (by decide)).mono ?_
      rintro e w3 ⟨⟨xa3, xc3, rfl⟩, hb3⟩
      have HB3 := Lib.hid hb3
      clear hb3
      go_wp2_with fail
      refine (turned_two 7 8 0 2 _ (by decide)).mono ?_
      rintro e w4 ⟨⟨xa4, xc4, rfl⟩, hb4⟩
      have HB4 := Lib.hid hb4
      clear hb4
      go_wp2_with fail
      refine (turned_two 7 8 (-1) 0 _ (by decide)).mono ?_
      rintro e w5 ⟨⟨xa5, xc5, rfl⟩, hb5⟩
      have HB5 := Lib.hid hb5
      clear hb5
      go_wp2_with fail
      refine (works_any _).mono ?_
      rintro e w6 ⟨rfl, hb6⟩
      have HB6 := Lib.hid hb6
      clear hb6
      go_wp2
      go_ret
      exact ⟨rfl, HT.out.2.2.trans ((fb_call (fb_call (fb_call (fb_call (fb_call (fb_call HB.out HB1.out) HB2.out) HB3.out) HB4.out) HB5.out) HB6.out).mono HT.out.2.2.size)⟩

theorem dealKnown_own : ownKnob Try.prog.godebug = none := by kernel_rfl
theorem dealKnown_laidOut : laidOutB Try.prog = true := by kernel_rfl

set_option maxHeartbeats 1000000 in
set_option maxRecDepth 100000 in
theorem dealKnown_lifted (os : Os) (started : os.Started) (H : Type) (enc : TypeId × Value → H) :
    ReturnsInHanded {} Try.checked os 7 .any (Rows.dealKnownSpec.pre6 enc Try.prog Try.f7 Rows.dealKnownRow.domain false) (Rows.dealKnownSpec.post enc Try.prog Try.f7 false true false false) := by
  refine returnsInHanded_of_change (C := Try.checked) dealKnown_own started (by kernel_rfl) Try.func7
    (ChangeSpec.witness6 (enc := enc) (C := Try.checked) false ⟨#[], #[], []⟩ 8 (by kernel_rfl) (by kernel_rfl) (by kernel_rfl) (by kernel_rfl)) ?_
  intro W base args ds gs before hval0 hW hcnd _
  have hval : ∀ (j : Nat) t v, Try.f7.params[j]? = some t → args[j]? = some v → Value.okWide Try.prog W .any base t v := hval0
  have hW' := hW
  obtain ⟨p, q, hA0, hV, rfl, hfz, hnd⟩ := hW
  have hA : DataW.TrodAll enc Try.prog W 0 (fun _ => true) true Try.f7.params.toList args.toList ds p := hA0
  rw [Try.params7] at hA hval
  obtain ⟨hargs, rfl, rfl⟩ := trodAll_nil hA
  obtain rfl : args = #[] := by cases args; simp_all
  obtain ⟨rfl, rfl⟩ := trodVars_none hV
  clear hA0 hval0
  refine (dealKnown_walk W).mono fun e W' ⟨he, bel⟩ => ?_
  subst he
  exact ⟨_, rfl, _, _, _, [], _, [], hW', trodAll_mk1 (shut_bool Try.underlying4 _), trodAll_mk0, rfl, bel.frame _, fun h => by cases h⟩

theorem dealKnown_over : Rows.dealKnownRow.holds Try.pinned (OpenSpec.ofChange Rows.dealKnownSpec) :=
  OpenClaim.holds_of_wide 7 Try.f7 rfl rfl rfl rfl rfl rfl rfl ⟨rfl, rfl, rfl, rfl, rfl⟩ rfl rfl rfl rfl rfl (by kernel_rfl) Try.func7 (by kernel_rfl)
    (of_decide_eq_true (by kernel_rfl)) (by unfold Func.isWrapper; first | (rw [if_pos (by decide +kernel)]; kernel_rfl) | (rw [if_neg (by decide +kernel)]; exact ⟨rfl, rfl⟩))
    (fun os started H enc _ => dealKnown_lifted os started H enc)

/-- The statement. -/
theorem dealKnown_holds : Rows.DealKnownSaid := dealKnown_over
#print axioms dealKnown_holds
end Go.Proofs.Ytcehclagipdleaa
