/- What TrailBack holds, by colours. No condition. -/
import Derived.Test.YtfkkkndigkchcaaTrailSome
import Derived.Test.YtfkkkndigkchcaaRes
namespace Go.Proofs.Ytfkkkndigkchcaa
open Go.RowKit

/-- An own row of the colour c. -/
def RowC (w : World) (col : Nat → Nat) (c base : Nat) (e : TypeId) (size : Nat) (v : Value) (n : Nat) (xs : List Value) : Prop := w.ownsRow base e size v n xs ∧ ∀ k, v.ownBlock = some k → col k = c
section
variable {w w' : World} {col : Nat → Nat} {c a base : Nat} {e : TypeId} {size n : Nat} {v : Value} {xs : List Value}
theorem RowC.nil (w : World) (col : Nat → Nat) (c base : Nat) (e : TypeId) (size : Nat) : RowC w col c base e size (.slice none 0 0) 0 [] := ⟨World.ownsRow_nil _ _ _ _, fun k h => by cases h⟩
theorem RowC.step {S : Nat → Prop} (h : RowC w col c base e size v n xs) (hm : Moved w w' S) (hS : ∀ k, S k → k < w.heap.size → col k = a) (hne : c ≠ a) : RowC w' (recol w.heap.size col a) c base e size v n xs := by
  refine ⟨ownsRow_block h.1 fun k hk => ?_, fun k hk => (recol_lt (World.ownsRow.lt h.1 k hk).2).trans (h.2 k hk)⟩
  have hl := (World.ownsRow.lt h.1 k hk).2
  exact hm.block k hl (fun hs => hne ((h.2 k hk).symm.trans (hS k hs hl)))
theorem RowC.made (a : Nat) (h : RowC w col c base e size v n xs) (hb : Below w.heap.size w w') : RowC w' (recol w.heap.size col a) c base e size v n xs :=
  ⟨ownsRow_block h.1 fun k hk => hb.block k (World.ownsRow.lt h.1 k hk).2, fun k hk => (recol_lt (World.ownsRow.lt h.1 k hk).2).trans (h.2 k hk)⟩
/-- A row that came of a call. -/
theorem RowC.fresh (c : Nat) {b0 : Nat} (h : w'.ownsRow w.heap.size e size v n xs) (hb : b0 ≤ w.heap.size) : RowC w' (recol w.heap.size col c) c b0 e size v n xs := by
  refine ⟨⟨h.1, ?_⟩, fun k hk => recol_ge (World.ownsRow.lt h k hk).1⟩
  rcases h.2 with hn | ⟨g, cap, cur, hv, hbs, rest⟩
  · exact .inl hn
  · exact .inr ⟨g, cap, cur, hv, by omega, rest⟩
/-- A row that grew. -/
theorem RowC.grew {v' : Value} {n' : Nat} {xs' : List Value} (h : RowC w col c base e size v n xs) (hw : w'.ownsRow base e size v' n' xs') (hf : ∀ k, v'.ownBlock = some k → v.ownBlock = some k ∨ w.heap.size ≤ k) : RowC w' (recol w.heap.size col c) c base e size v' n' xs' :=
  ⟨hw, fun k hk => (hf k hk).elim (fun h1 => (recol_lt (World.ownsRow.lt h.1 k h1).2).trans (h.2 k h1)) (fun h1 => recol_ge h1)⟩
theorem moved_grown {r : Option Nat} (h : w.grownBy w' r) : Moved w w' (fun k => r = some k) := Moved.of_grown h (fun _ e => e)
end

/-- What TrailBack holds; but for what has the colour x. -/
structure BK (x : Nat) (w0 w : World) (col : Nat → Nat) (Bx : Nat) (arr : List Value) (T U : Nat) (ts us : List Int × List (Int × Int)) (mv : Value) (lm : List Int) (sv : Value) (vals : List Value) (L : Nat → List Int) : Prop where
  bel : Below w0.heap.size w0 w
  box : x ≠ 6 → Arr w Bx 39 arr ∧ col Bx = 6
  t : x ≠ 1 → TrC w0 w col 1 T ts.1 ts.2
  u : x ≠ 2 → TrC w0 w col 2 U us.1 us.2
  m : x ≠ 3 → RowC w col 3 w0.heap.size 3 1 mv lm.length (lm.map (Value.int .i64))
  s : x ≠ 4 → RowC w col 4 w0.heap.size 34 1 sv vals.length vals
  e : x ≠ 5 → ∀ j, j < vals.length → RowC w col 5 w0.heap.size 3 1 (vals.getD j (.slice none 0 0)) (L j).length ((L j).map (Value.int .i64))
section
variable {w0 w w' : World} {col : Nat → Nat} {Bx : Nat} {arr : List Value} {T U : Nat} {ts us ts' us' : List Int × List (Int × Int)} {mv mv' : Value} {lm lm' : List Int} {sv sv' : Value} {vals : List Value} {L : Nat → List Int} {S : Nat → Prop}
/-- What has the colour a was written. -/
theorem BK.moved {a : Nat} (h : BK 0 w0 w col Bx arr T U ts us mv lm sv vals L) (hm : Moved w w' S) (hS : ∀ k, S k → k < w.heap.size → col k = a) (hb : ∀ k, S k → w0.heap.size ≤ k) : BK a w0 w' (recol w.heap.size col a) Bx arr T U ts us mv lm sv vals L := by
  have hbel : Below w0.heap.size w0 w' := h.bel.trans (hm.below hb h.bel.size)
  have z1 := h.box (by decide)
  refine ⟨hbel, fun hx => ?_, fun hx => (h.t (by decide)).step hm hbel hS (Ne.symm hx), fun hx => (h.u (by decide)).step hm hbel hS (Ne.symm hx), fun hx => (h.m (by decide)).step hm hS (Ne.symm hx), fun hx => (h.s (by decide)).step hm hS (Ne.symm hx), fun hx j hj => (h.e (by decide) j hj).step hm hS (Ne.symm hx)⟩
  exact ⟨(hm.block Bx z1.1.lt (fun hs => hx ((hS Bx hs z1.1.lt).symm.trans z1.2))).trans z1.1, (recol_lt z1.1.lt).trans z1.2⟩
/-- New memory, of the colour a. -/
theorem BK.made (a : Nat) (h : BK 0 w0 w col Bx arr T U ts us mv lm sv vals L) (hm : Below w.heap.size w w') : BK 0 w0 w' (recol w.heap.size col a) Bx arr T U ts us mv lm sv vals L := by
  have z1 := h.box (by decide)
  exact ⟨fb_call h.bel hm, fun _ => ⟨(hm.block Bx z1.1.lt).trans z1.1, (recol_lt z1.1.lt).trans z1.2⟩, fun _ => (h.t (by decide)).made a hm, fun _ => (h.u (by decide)).made a hm, fun _ => (h.m (by decide)).made a hm, fun _ => (h.s (by decide)).made a hm, fun _ j hj => (h.e (by decide) j hj).made a hm⟩
/-- A call wrote the first trail. -/
theorem BK.onT (h : BK 0 w0 w col Bx arr T U ts us mv lm sv vals L) {O : Nat → Prop} (hO : ∀ k, O k → col k = 1) (hS : TrS w0 w T O ts.1 ts.2) (hn : TrN w0 w w' T O ts'.1 ts'.2) : BK 0 w0 w' (recol w.heap.size col 1) Bx arr T U ts' us mv lm sv vals L := by
  have k := h.moved (a := 1) hn.mv (fun k hk _ => hO k hk) (fun k hk => (hS.base hk).1)
  exact ⟨k.bel, fun _ => k.box (by decide), fun _ => TrC.own hO hS hn, fun _ => k.u (by decide), fun _ => k.m (by decide), fun _ => k.s (by decide), fun _ => k.e (by decide)⟩
theorem BK.onU (h : BK 0 w0 w col Bx arr T U ts us mv lm sv vals L) {O : Nat → Prop} (hO : ∀ k, O k → col k = 2) (hS : TrS w0 w U O us.1 us.2) (hn : TrN w0 w w' U O us'.1 us'.2) : BK 0 w0 w' (recol w.heap.size col 2) Bx arr T U ts us' mv lm sv vals L := by
  have k := h.moved (a := 2) hn.mv (fun k hk _ => hO k hk) (fun k hk => (hS.base hk).1)
  exact ⟨k.bel, fun _ => k.box (by decide), fun _ => k.t (by decide), fun _ => TrC.own hO hS hn, fun _ => k.m (by decide), fun _ => k.s (by decide), fun _ => k.e (by decide)⟩
theorem row_base {w : World} {b : Nat} {e : TypeId} {size n : Nat} {v : Value} {xs : List Value} (h : w.ownsRow b e size v n xs) : ∀ k, v.ownBlock = some k → b ≤ k := fun k hk => (World.ownsRow.lt h k hk).1
/-- A mark more. -/
theorem BK.mark (h : BK 0 w0 w col Bx arr T U ts us mv lm sv vals L) {x : Int} (hw : w'.ownsRow w0.heap.size 3 1 mv' (lm.length + 1) (lm.map (Value.int .i64) ++ [.int .i64 x])) (hg : w.grownBy w' mv.ownBlock) (hf : ∀ k, mv'.ownBlock = some k → mv.ownBlock = some k ∨ w.heap.size ≤ k) :
    BK 0 w0 w' (recol w.heap.size col 3) Bx arr T U ts us mv' (lm ++ [x]) sv vals L := by
  have hm := h.m (by decide)
  have k := h.moved (a := 3) (moved_grown hg) (fun k hk _ => hm.2 k hk) (row_base hm.1)
  refine ⟨k.bel, fun _ => k.box (by decide), fun _ => k.t (by decide), fun _ => k.u (by decide), fun _ => ?_, fun _ => k.s (by decide), fun _ => k.e (by decide)⟩
  rw [List.length_append, List.length_singleton, List.map_append, List.map_singleton]
  exact hm.grew hw hf
/-- A list more. -/
theorem BK.snoc (h : BK 0 w0 w col Bx arr T U ts us mv lm sv vals L) {v : Value} (hv : RowC w col 5 w0.heap.size 3 1 v (L vals.length).length ((L vals.length).map (Value.int .i64))) (hw : w'.ownsRow w0.heap.size 34 1 sv' (vals.length + 1) (vals ++ [v])) (hg : w.grownBy w' sv.ownBlock) (hf : ∀ k, sv'.ownBlock = some k → sv.ownBlock = some k ∨ w.heap.size ≤ k) :
    BK 0 w0 w' (recol w.heap.size col 4) Bx arr T U ts us mv lm sv' (vals ++ [v]) L := by
  have hm := h.s (by decide)
  have k := h.moved (a := 4) (moved_grown hg) (fun k hk _ => hm.2 k hk) (row_base hm.1)
  refine ⟨k.bel, fun _ => k.box (by decide), fun _ => k.t (by decide), fun _ => k.u (by decide), fun _ => k.m (by decide), fun _ => ?_, fun _ j hj => ?_⟩
  · rw [List.length_append, List.length_singleton]; exact hm.grew hw hf
  · rw [List.length_append, List.length_singleton] at hj
    by_cases e : j < vals.length
    · have : (vals ++ [v]).getD j (.slice none 0 0) = vals.getD j (.slice none 0 0) := by simp [List.getD_eq_getElem?_getD, List.getElem?_append_left e]
      rw [this]; exact k.e (by decide) j e
    · obtain rfl : j = vals.length := by omega
      have : (vals ++ [v]).getD vals.length (.slice none 0 0) = v := by simp [List.getD_eq_getElem?_getD]
      rw [this]; exact hv.step (moved_grown hg) (fun k hk _ => hm.2 k hk) (by decide)
end
end Go.Proofs.Ytfkkkndigkchcaa
