/- What the laid table gives. No condition. -/
import Derived.Test.YtcgadmeagbcbnaaDoorIdxBc
import Derived.Test.YtcgadmeagbcbnaaDoorOpen
import Derived.ProofKit
import Derived.LaidMore
import Derived.OpenShut
import Derived.Lib.LaidTab
import Derived.Stop.Joined
namespace Go.Proofs.YtcgadmeagbcbnaaDoor
open Go.ChangeShapes Go.WideShapes Go.ChangeAt Go.RowKit

theorem gTab : Tryd.prog.globalNamed "math/bits.deBruijn64tab" = some 0 := by kernel_rfl
theorem gTabType : (Tryd.prog.globals[0]?).map (·.type) = some 110 := by kernel_rfl
theorem tab_at {W : World} (h : laidMetH Tryd.prog [("math/bits.deBruijn64tab", Rows.laid_math_bits_deBruijn64tab)] W) : TabAt W ∧ 0 < W.heap.size := by
  rw [MakeChecks.laidMetH_plain _ _ _ (by kernel_rfl)] at h
  have e : (Rows.laid_math_bits_deBruijn64tab : DataW Unit) = Lib.tabData .u8 (Lib.deBruijn64tab.map fun n : Nat => (n : Int)) := by kernel_rfl
  rw [e] at h
  have hT := Lib.tabIs_of_head gTab gTabType Tryd.underlying110 Tryd.underlying5 (by kernel_rfl) (by kernel_rfl) h
  refine ⟨fun j hj => ?_, World.block_lt_of_cell? _ _ (hT.cell gTab 0 (by decide))⟩
  have h1 := hT.cell gTab j (by simpa using hj)
  rw [h1]
  simp [List.getD_eq_getElem?_getD, hj]
end Go.Proofs.YtcgadmeagbcbnaaDoor
