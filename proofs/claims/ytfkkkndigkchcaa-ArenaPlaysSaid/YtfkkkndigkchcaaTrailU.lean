/- Small lemmas for the trail laws. No condition. -/
import Derived.Test.YtfkkkndigkchcaaTrailWorks
import Derived.Test.YtfkkkndigkchcaaOpenA
namespace Go.Proofs.Ytfkkkndigkchcaa
open Go.ChangeShapes Go.WideShapes Go.ChangeAt Go.RowKit
theorem u8_bd {x : Int} (h : (Lit.int .u8 x).wf = true) : 0 ≤ x ∧ x ≤ 255 := by simpa [Lit.wf, IntKind.min, IntKind.max, IntKind.signed, IntKind.bits] using h
theorem getZ_in {cs : List Int} {k : Nat} (h : k < cs.length) : getZ cs (k : Int) = cs.getD k 0 := by unfold getZ; rw [if_pos (by omega), Int.toNat_natCast]
theorem getZ_out {cs : List Int} {k : Int} (h : ¬ (0 ≤ k ∧ k < cs.length)) : getZ cs k = 0 := if_neg h
theorem getZ_setC {cs : List Int} {k : Nat} (h : k < cs.length) (v : Int) : getZ (setC cs (k : Int) v) (k : Int) = v := by
  have e : setC cs (k : Int) v = cs.set k v := by unfold setC; rw [if_pos (by omega), Int.toNat_natCast]
  rw [e, getZ_in (by simpa using h)]
  simp [List.getD_eq_getElem?_getD, h]
theorem setH_eq {cs : List Int} {hs : List (Int × Int)} {k v : Int} (h : getZ cs k = v) : setH cs hs k v = hs := if_neg (fun hh => hh.2 h)
theorem setH_ne {cs : List Int} {hs : List (Int × Int)} {k : Nat} {v : Int} (hk : k < cs.length) (h : getZ cs (k : Int) ≠ v) : (setH cs hs (k : Int) v).length = hs.length + 1 := by
  unfold setH; rw [if_pos ⟨by omega, h⟩]; simp
theorem setH_out {cs : List Int} {hs : List (Int × Int)} {k v : Int} (h : ¬ (0 ≤ k ∧ k < cs.length)) : setH cs hs k v = hs := if_neg (fun hh => h hh.1)
end Go.Proofs.Ytfkkkndigkchcaa
