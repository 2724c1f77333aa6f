/- What walks of loops over iterators stand on. No condition. -/
import Derived.RangeFuncNested
import Derived.RangeFuncBound
import Derived.RangeFuncBox
import Derived.RangeFuncCalls
import Derived.RangeFuncLeaves
import Derived.Shelf.Abstract
import Derived.Shelf.RegionOpen
import Derived.WalkKit
import Derived.OwnWalkIn
import Derived.TacticsInMore
import Derived.LoopNIn
import Derived.LoopIn
import Derived.Laws.EntriesVeiled
import Derived.Test.YtcgadmeagbcbnaaDoorArr
namespace Go.Proofs.YtcgadmeagbcbnaaDoor
open Go.RowKit

/-- What a round keeps: a word on worlds, if it holds ahead of the round, holds behind it. -/
def KpOf (Pw : World → Prop) (A B : World) : Prop := Pw A → Pw B
theorem kpOf_t {Pw : World → Prop} {A B C : World} (h : KpOf Pw A B) (k : KpOf Pw B C) : KpOf Pw A C := fun p => k (h p)
/-- A word that abides the turn of a block that is no cells. -/
def OnCells (Pw : World → Prop) : Prop := ∀ (W : World) (l : Nat) (o o' : Obj), W.heap[l]? = some o → o.isCells = false → Pw W → Pw (W.putObj l o')
theorem kpOf_b {Pw : World → Prop} (h : OnCells Pw) {w : World} (W : World) (l : Nat) (o o' : Obj) (_ : w.heap.size ≤ l) (hl : W.heap[l]? = some o) (ho : o.isCells = false) (_ : o.isWalk = false) : KpOf Pw W (W.putObj l o') := h W l o o' hl ho
theorem putObj_other {W : World} {l b : Nat} {o o' : Obj} {cs : Array Value} {t : TypeId} {f : Nat × Nat} (hl : W.heap[l]? = some o) (ho : o.isCells = false) (hb : W.heap[b]? = some (.cells cs t f)) : (W.putObj l o').heap[b]? = W.heap[b]? := by
  refine World.putObj_heap_other (fun e => ?_)
  subst e; rw [hb] at hl; injection hl with hl; rw [← hl] at ho; cases ho
theorem Arr.putObj {W : World} {l B : Nat} {o o' : Obj} {t : TypeId} {vs : List Value} (hl : W.heap[l]? = some o) (ho : o.isCells = false) (h : Arr W B t vs) : Arr (W.putObj l o') B t vs := (putObj_other hl ho h).trans h
theorem Boxed.putObj {W : World} {l B : Nat} {o o' : Obj} {t : TypeId} {v : Value} (hl : W.heap[l]? = some o) (ho : o.isCells = false) (h : Boxed W B t v) : Boxed (W.putObj l o') B t v := (putObj_other hl ho h).trans h
/-- The caller's word abides what the law turns: an array of one's own. -/
theorem ownFrom_arr {β : Type} {n B : Nat} {t : TypeId} (vs : β → List Value) : OwnFrom n (fun s W => Arr W B t (vs s)) := fun s W W' row hs hg hr => by
  refine Arr.kept hs hg (fun e => ?_)
  obtain ⟨_, o, ho, hc⟩ := hr B e.symm
  have h' : W.heap[B]? = _ := hs
  rw [h'] at ho; injection ho with ho; rw [← ho] at hc; cases hc
theorem ownFrom_boxed {β : Type} {n B : Nat} {t : TypeId} (v : β → Value) : OwnFrom n (fun s W => Boxed W B t (v s)) := fun s W W' row hs hg hr => by
  refine Boxed.kept hs hg (fun e => ?_)
  obtain ⟨_, o, ho, hc⟩ := hr B e.symm
  have h' : W.heap[B]? = _ := hs
  rw [h'] at ho; injection ho with ho; rw [← ho] at hc; cases hc
theorem setCell_same_val {w : World} {b i : Nat} {v : Value} (h : w.cell? ⟨b, i, none⟩ = some v) : w.setCell ⟨b, i, none⟩ v = w := by
  obtain ⟨heap, tape, drawn, os, output⟩ := w
  simp only [World.setCell, World.mk.injEq, and_true]
  simp only [World.cell?] at h
  apply Array.ext_getElem?
  intro k
  rw [Array.getElem?_modify]
  split
  · rename_i hk
    subst hk
    split at h
    · rename_i c t f hc
      simp only [hc, Option.map_some]
      simp only [Option.isSome_none, Bool.false_eq_true, if_false] at h ⊢
      congr 2
      apply Array.ext_getElem?
      intro j
      rw [Array.getElem?_setIfInBounds]
      split
      · rename_i hj; subst hj
        rw [h]; split
        · rfl
        · rename_i h2; rw [Array.getElem?_eq_none (by omega)] at h; cases h
      · rfl
    · cases h
  · rfl
end Go.Proofs.YtcgadmeagbcbnaaDoor
