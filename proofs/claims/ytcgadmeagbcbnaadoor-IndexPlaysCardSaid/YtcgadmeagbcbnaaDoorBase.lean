/- Small lemmas that all walks of this seat use: draws moved outwards, quiet calls, what stays below a block. No condition. -/
import Derived.Test.YtcgadmeagbcbnaaDoorRows
import Derived.WalkKit
import Derived.Handy
import Derived.BigQuiet
import Derived.BigRegion
import Derived.Deep.QuietTactic
import Derived.Deep.RegionHeld3
import Derived.Deep.DeepCutAuto
import Derived.Lib.Hide
namespace Go.Proofs.YtcgadmeagbcbnaaDoor
open Go.RowKit

section
variable (w : World) (n : Nat)
@[go_sem] theorem setCell_drewN (a : Addr) (v : Value) : (w.drewN n).setCell a v = (w.setCell a v).drewN n := rfl
@[go_sem] theorem alloc_drewN (o : Obj) : (w.drewN n).alloc o = (w.alloc o).drewN n := rfl
end
theorem bel_drewN {B : Nat} {a w : World} (h : Below B a w) (n : Nat) : Below B a (w.drewN n) := h.trans ⟨rfl, rfl, rfl, Nat.le_refl _, fun _ _ => rfl⟩
theorem bel_drew {B : Nat} {a w : World} (h : Below B a w) : Below B a w.drew := h.drew

/-- A quiet call inside a region that draws its order: the callee leaves the world as it is. -/
theorem quiet_w {P : Program} {f : FuncId} {args : Array Value} {w : World} {v : Value} {R : World → Prop}
    (h : Calls P f args w fun e w' => e = .returned v ∧ w = w') (hR : R w) : Calls P f args w fun e w'' => e = .returned v ∧ R w'' :=
  h.mono fun _ _ ⟨he, hm⟩ => ⟨he, hm ▸ hR⟩

/-- What lay below the heap's end lies as it lay. -/
theorem bcell {W w1 : World} (hb : Below W.heap.size W w1) : (∀ b o, b < W.heap.size → w1.cell? ⟨b, o, none⟩ = W.cell? ⟨b, o, none⟩) ∧ (∀ b o, b < W.heap.size → w1.frozen? ⟨b, o, none⟩ = W.frozen? ⟨b, o, none⟩) :=
  ⟨fun b o h => hb.cell (p := ⟨b, o, none⟩) h, fun b o h => hb.frozen (p := ⟨b, o, none⟩) h⟩

theorem ret_b {a b : Bool} (h : a = b) : Ending.returned (.bool a) = .returned (.bool b) := by rw [h]
theorem ret_i64 {a b : Int} (h : a = b) : Ending.returned (.int .i64 a) = .returned (.int .i64 b) := by rw [h]

end Go.Proofs.YtcgadmeagbcbnaaDoor
