/- More small lemmas for the trail laws. No condition. -/
import Derived.Test.YtfkkkndigkchcaaTrailU
import Derived.Test.YtfkkkndigkchcaaOpenN
namespace Go.Proofs.Ytfkkkndigkchcaa
open Go.ChangeShapes Go.WideShapes Go.ChangeAt Go.RowKit
theorem was_setCH {cs : List Int} {hs : List (Int × Int)} (i v : Int) {m : Nat} (hm : m ≤ hs.length) : was (setC cs i v) (setH cs hs i v) m = was cs hs m ∧ (setH cs hs i v).take m = hs.take m := by
  unfold setC setH
  by_cases hi : 0 ≤ i ∧ i < cs.length
  · obtain ⟨n, rfl⟩ := Int.eq_ofNat_of_zero_le hi.1
    have hn : n < cs.length := by have := hi.2; omega
    rw [if_pos hi, Int.toNat_natCast, getZ_in hn]
    by_cases hv : cs.getD n 0 = v
    · rw [if_neg (fun h => h.2 hv)]
      have e3 : cs.set n v = cs := by
        rw [← hv]
        apply List.ext_getElem (by simp)
        intro j h1 h2
        by_cases e : n = j
        · subst e; simp [List.getD_eq_getElem?_getD, hn]
        · simp [e]
      rw [e3]; exact ⟨rfl, rfl⟩
    · rw [if_pos ⟨hi, hv⟩]
      exact ⟨was_set cs hs hn v m hm, List.take_append_of_le_length hm⟩
  · rw [if_neg hi, if_neg (fun h => hi h.1)]; exact ⟨rfl, rfl⟩
theorem getZ_setC_ne {cs : List Int} {i j : Int} (h : i ≠ j) (v : Int) : getZ (setC cs i v) j = getZ cs j := by
  unfold getZ
  rw [setC_len]
  by_cases hj : 0 ≤ j ∧ j < cs.length
  · rw [if_pos hj, if_pos hj]
    unfold setC
    by_cases hi : 0 ≤ i ∧ i < cs.length
    · rw [if_pos hi]
      have : ¬ (i.toNat = j.toNat) := by omega
      simp [List.getD_eq_getElem?_getD, this]
    · rw [if_neg hi]
  · rw [if_neg hj, if_neg hj]
theorem getZ_app_zeros {cs : List Int} {n : Nat} {j : Int} (h : (cs.length : Int) ≤ j) : getZ (cs ++ List.replicate n 0) j = 0 := by
  unfold getZ
  split
  · rename_i h1
    rw [List.getD_eq_getElem?_getD, List.getElem?_append_right (by omega), List.getElem?_replicate]
    split <;> rfl
  · rfl
end Go.Proofs.Ytfkkkndigkchcaa
