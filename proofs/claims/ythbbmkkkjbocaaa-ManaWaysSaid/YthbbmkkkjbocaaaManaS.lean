/- The walks of the statements' helpers small and sum; and what both statements over small numbers begin with. No condition. -/
import Derived.Test.YthbbmkkkjbocaaaManaC
namespace Go.Proofs.Ythbbmkkkjbocaaa
open Go.RowKit

abbrev b8 (a b c d : Int) : Value := .agg #[.int .u8 a, .int .u8 b, .int .u8 c, .int .u8 d]

set_option maxHeartbeats 1000000 in
theorem small_at (a' b' c' d' a b c d : Int) (a0 : 0 ≤ a') (a1 : a' ≤ 255) (b0 : 0 ≤ b') (b1 : b' ≤ 255) (c0 : 0 ≤ c') (c1 : c' ≤ 255) (d0 : 0 ≤ d') (d1 : d' ≤ 255)
    (ha : Hid (a' % 13 = a)) (hb : Hid (b' % 13 = b)) (hc : Hid (c' % 13 = c)) (hd : Hid (d' % 13 = d)) (w : World) :
    Calls Try.prog 15 #[b8 a' b' c' d'] w fun e w' => e = .returned (mana a b c d) ∧ ∃ o1 o2 : Obj, (w.alloc o1).alloc o2 = w' := by
  obtain rfl := ha.out; obtain rfl := hb.out; obtain rfl := hc.out; obtain rfl := hd.out
  clear ha hb hc hd
  go_enter Try.func15, Try.ntmps15
  go_wp2
  exact bodyPost_ret (v := mana (a' % 13) (b' % 13) (c' % 13) (d' % 13)) (by simp [results, Try.results15, go_sem]) rfl ⟨rfl, _, _, rfl⟩

theorem sum_any (a b c d : Int) (a0 : -9999 ≤ a) (a1 : a ≤ 9999) (b0 : -9999 ≤ b) (b1 : b ≤ 9999) (c0 : -9999 ≤ c) (c1 : c ≤ 9999) (d0 : -9999 ≤ d) (d1 : d ≤ 9999) (w : World) :
    Calls Try.prog 16 #[mana a b c d] w fun e w' => e = .returned (.int .i64 (a + b + c + d)) ∧ Below w.heap.size w w' := by
  go_enter Try.func16, Try.ntmps16
  go_wp2
  go_ret
  exact ⟨rfl, fb_alloc (Below.refl _ _) _⟩

/-- A block of four integers. -/
structure Arr (w : World) (g : Nat) (k : IntKind) (x0 x1 x2 x3 : Int) : Prop where
  lt : g < w.heap.size
  c0 : w.cell? ⟨g, 0, none⟩ = some (.int k x0)
  c1 : w.cell? ⟨g, 1, none⟩ = some (.int k x1)
  c2 : w.cell? ⟨g, 2, none⟩ = some (.int k x2)
  c3 : w.cell? ⟨g, 3, none⟩ = some (.int k x3)
  fr : ∀ i, w.frozen? ⟨g, i, none⟩ = false
theorem Arr.below {w w' : World} {g : Nat} {k : IntKind} {x0 x1 x2 x3 : Int} (h : Arr w g k x0 x1 x2 x3) (hb : Below w.heap.size w w') : Arr w' g k x0 x1 x2 x3 :=
  ⟨Nat.lt_of_lt_of_le h.lt hb.size, (hb.cell (p := ⟨g, 0, none⟩) h.lt).trans h.c0, (hb.cell (p := ⟨g, 1, none⟩) h.lt).trans h.c1, (hb.cell (p := ⟨g, 2, none⟩) h.lt).trans h.c2, (hb.cell (p := ⟨g, 3, none⟩) h.lt).trans h.c3,
    fun i => (hb.frozen (p := ⟨g, i, none⟩) h.lt).trans (h.fr i)⟩
theorem arr_ite {w w' : World} {g : Nat} {k : IntKind} {x0 x1 x2 x3 y0 y1 y2 y3 : Int} {c : Prop} [Decidable c] (h : if c then Arr w g k x0 x1 x2 x3 else Arr w g k y0 y1 y2 y3) (hb : Below w.heap.size w w') :
    if c then Arr w' g k x0 x1 x2 x3 else Arr w' g k y0 y1 y2 y3 := by
  split
  · rename_i hc; rw [if_pos hc] at h; exact h.below hb
  · rename_i hc; rw [if_neg hc] at h; exact h.below hb
theorem arr_ite_lt {w : World} {g : Nat} {k : IntKind} {x0 x1 x2 x3 y0 y1 y2 y3 : Int} {c : Prop} [Decidable c] (h : if c then Arr w g k x0 x1 x2 x3 else Arr w g k y0 y1 y2 y3) : g < w.heap.size := by
  split at h <;> exact h.lt
theorem Arr.set {w : World} {g : Nat} {k : IntKind} {x0 x1 x2 x3 : Int} (h : Arr w g k x0 x1 x2 x3) (p : Addr) (v : Value) (hp : p.block ≠ g) : Arr (w.setCell p v) g k x0 x1 x2 x3 := by
  have hne : ∀ i, p ≠ ⟨g, i, none⟩ := fun i e => hp (by rw [e])
  exact ⟨by rw [World.size_setCell]; exact h.lt, (World.cell?_setCell_other _ _ _ _ (hne 0)).trans h.c0, (World.cell?_setCell_other _ _ _ _ (hne 1)).trans h.c1, (World.cell?_setCell_other _ _ _ _ (hne 2)).trans h.c2, (World.cell?_setCell_other _ _ _ _ (hne 3)).trans h.c3,
    fun i => by rw [World.frozen?_setCell]; exact h.fr i⟩

abbrev store4 (w : World) (g : Nat) (k : IntKind) (x0 x1 x2 x3 : Int) : World := (((w.setCell ⟨g, 0, none⟩ (.int k x0)).setCell ⟨g, 1, none⟩ (.int k x1)).setCell ⟨g, 2, none⟩ (.int k x2)).setCell ⟨g, 3, none⟩ (.int k x3)
theorem arr_store {w : World} {g : Nat} {k : IntKind} {y0 y1 y2 y3 : Int} (h : Arr w g k y0 y1 y2 y3) (x0 x1 x2 x3 : Int) : Arr (store4 w g k x0 x1 x2 x3) g k x0 x1 x2 x3 := by
  obtain ⟨hl, h0, h1, h2, h3, hf⟩ := h
  exact ⟨by simpa using hl, by simp [go_sem, h0], by simp [go_sem, h1], by simp [go_sem, h2], by simp [go_sem, h3], fun i => by simp [hf]⟩
theorem arr_store_other {w : World} {g g' : Nat} {k k' : IntKind} {y0 y1 y2 y3 : Int} (h : Arr w g' k' y0 y1 y2 y3) (hne : g' ≠ g) (x0 x1 x2 x3 : Int) : Arr (store4 w g k x0 x1 x2 x3) g' k' y0 y1 y2 y3 :=
  (((h.set ⟨g, 0, none⟩ _ (Ne.symm hne)).set ⟨g, 1, none⟩ _ (Ne.symm hne)).set ⟨g, 2, none⟩ _ (Ne.symm hne)).set ⟨g, 3, none⟩ _ (Ne.symm hne)
theorem arr_store_ite {w : World} {g g' : Nat} {k k' : IntKind} {y0 y1 y2 y3 z0 z1 z2 z3 : Int} {c : Prop} [Decidable c] (h : if c then Arr w g' k' y0 y1 y2 y3 else Arr w g' k' z0 z1 z2 z3) (hne : g' ≠ g) (x0 x1 x2 x3 : Int) :
    if c then Arr (store4 w g k x0 x1 x2 x3) g' k' y0 y1 y2 y3 else Arr (store4 w g k x0 x1 x2 x3) g' k' z0 z1 z2 z3 := by
  split
  · rename_i hc; rw [if_pos hc] at h; exact arr_store_other h hne _ _ _ _
  · rename_i hc; rw [if_neg hc] at h; exact arr_store_other h hne _ _ _ _
theorem bel_store {B : Nat} {a w : World} {g : Nat} {k : IntKind} (h : Below B a w) (hg : B ≤ g) (x0 x1 x2 x3 : Int) : Below B a (store4 w g k x0 x1 x2 x3) :=
  (((h.setCell (p := ⟨g, 0, none⟩) hg _).setCell (p := ⟨g, 1, none⟩) hg _).setCell (p := ⟨g, 2, none⟩) hg _).setCell (p := ⟨g, 3, none⟩) hg _
end Go.Proofs.Ythbbmkkkjbocaaa
