/- What the laid table gives; arrays of four words opened. No condition. -/
import Derived.Test.YtikoabnonmkhkaaDoorBitsR
import Derived.Test.YtikoabnonmkhkaaDoorOpen
import Derived.ProofKit
import Derived.LaidMore
import Derived.OpenShut
import Derived.Lib.LaidTab
import Derived.Stop.Joined
namespace Go.Proofs.YtikoabnonmkhkaaDoor
open Go.ChangeShapes Go.WideShapes Go.ChangeAt Go.RowKit

theorem gTab : Tryd.prog.globalNamed "math/bits.deBruijn64tab" = some 0 := by kernel_rfl
theorem gTabType : (Tryd.prog.globals[0]?).map (·.type) = some 52 := by kernel_rfl
theorem tab_at {W : World} (h : laidMetH Tryd.prog [("math/bits.deBruijn64tab", Rows.laid_math_bits_deBruijn64tab)] W) : TabAt W ∧ 0 < W.heap.size := by
  rw [MakeChecks.laidMetH_plain _ _ _ (by kernel_rfl)] at h
  have e : (Rows.laid_math_bits_deBruijn64tab : DataW Unit) = Lib.tabData .u8 (Lib.deBruijn64tab.map fun n : Nat => (n : Int)) := by kernel_rfl
  rw [e] at h
  have hT := Lib.tabIs_of_head gTab gTabType Tryd.underlying52 Tryd.underlying5 (by kernel_rfl) (by kernel_rfl) h
  refine ⟨fun j hj => ?_, World.block_lt_of_cell? _ _ (hT.cell gTab 0 (by decide))⟩
  have h1 := hT.cell gTab j (by simpa using hj)
  rw [h1]
  simp [List.getD_eq_getElem?_getD, hj]
theorem ints_cap {w : World} {n k c : Nat} {a : Option Addr} {l : List Int} (h : Ints w n (.slice a k c) l) : k = l.length ∧ k ≤ c := by
  rcases h with ⟨rfl, a', c', e, _⟩ | ⟨b, o, c', e, hl, _⟩
  · injection e with e1 e2 e3
    subst e2
    exact ⟨rfl, Nat.zero_le _⟩
  · injection e with e1 e2 e3
    subst e2 e3
    exact ⟨rfl, hl⟩
theorem nats4 {a b c d : Int} (wa : (Lit.int .u64 a).wf = true) (wb : (Lit.int .u64 b).wf = true) (wc : (Lit.int .u64 c).wf = true) (wd : (Lit.int .u64 d).wf = true) :
    ∃ a' b' c' d' : Nat, a = a' ∧ b = b' ∧ c = c' ∧ d = d' ∧ wfB [a', b', c', d'] := by
  have h1 := bounds_u64 wa
  have h2 := bounds_u64 wb
  have h3 := bounds_u64 wc
  have h4 := bounds_u64 wd
  exact ⟨a.toNat, b.toNat, c.toNat, d.toNat, by omega, by omega, by omega, by omega, wf_mk (by omega) (by omega) (by omega) (by omega)⟩
end Go.Proofs.YtikoabnonmkhkaaDoor
