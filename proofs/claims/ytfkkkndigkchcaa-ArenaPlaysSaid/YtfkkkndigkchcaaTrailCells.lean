/- The walk of cells: all of a trail. No condition. -/
import Derived.Test.YtfkkkndigkchcaaTrailAlike
import Derived.Laws.AppendOwn
namespace Go.Proofs.Ytfkkkndigkchcaa
open Go.RowKit

theorem infoI : (Try.prog.info? 3).map (fun i => (i.zero, i.size, i.bytes)) = some (some (.int .i64 0), 1, 8) := by kernel_rfl
theorem cells_any {w0 w : World} {T : Nat} {O : Nat → Prop} {cs : List Int} {hs : List (Int × Int)} (h : TrS w0 w T O cs hs) :
    Calls Try.prog 33 #[.pointer (some ⟨T, 0, none⟩)] w fun e w' => ∃ v, e = .returned v ∧ IRow w' w.heap.size v cs ∧ Below w.heap.size w w' := by
  obtain ⟨i0, hi, hz0, hz1, hz2⟩ := info_parts infoI
  have hcl := h.len
  have HT := Lib.hid h
  clear h
  obtain ⟨n, hn⟩ : ∃ n, cs.length = n := ⟨_, rfl⟩
  have HN := Lib.hid hn
  rw [hn] at hcl
  clear hn
  go_enter Try.func33, Try.ntmps33
  go_wp2
  go_loopw [3, 4] (fun v i wr => ∃ k : Nat, k ≤ n ∧ i = .int .i64 k ∧ IRow wr w.heap.size v (cs.take k) ∧ Below w.heap.size w wr) (fun _ i _ => n - (intOf i).toNat)
  case atStart => exact ⟨0, Nat.zero_le _, rfl, IRow.nil _ _, Below.refl _ _⟩
  case round =>
    obtain ⟨k, hk, rfl, hown, hbel⟩ := hrel
    have HW := Lib.hid (HT.out.below hbel)
    by_cases hlt : k < n
    · have hkl : (cs.take k).length ≤ 1048576 := by simp; omega
      have htk : cs.take (k + 1) = cs.take k ++ [cs.getD k 0] := by
        have := HN.out
        rw [List.take_succ_eq_append_getElem (by omega)]; simp [List.getD_eq_getElem?_getD, hlt, this]
      have hgz : getZ cs (k : Int) = cs.getD k 0 := getZ_in (by have := HN.out; omega)
      obtain ⟨x, hx⟩ : ∃ x, cs.getD k 0 = x := ⟨_, rfl⟩
      rw [hx] at htk hgz
      have HG := Lib.hid (And.intro htk hgz)
      clear htk hgz hx
      go_wp2_with fail
      refine (tr_len HW.out).mono ?_
      rintro e w' ⟨he, rfl⟩
      rw [HN.out] at he
      subst he
      go_wp2_with fail
      refine (tr_get HW.out (k : Int)).mono ?_
      rintro e w' ⟨he, rfl⟩
      rw [HG.out.2] at he
      subst he
      go_wp2_with (at_builtin; refine wpList_append_own _ rfl _ _ 34 rfl w.heap.size 3 i0 (.int .i64 0) 1 8 Try.underlying34 hi hz0 hz1 hz2 rfl (by decide) _ _ _ rfl (hown.alloc _) ⟨wr.heap.size, 0, none⟩ 1 1 [.int .i64 x] rfl rfl (cell_one_new _ _ _) (by simp [Value.oneCell']) (by unfold maxLen; omega) (by omega) (by have := hbel.size; simp; omega) ?_; intro v' w1 hown' hgrow hfr')
      go_roundw
      case rel => exact ⟨k + 1, by omega, by go_num, by rw [HG.out.1]; exact IRow.app hown', IRow.appBel hbel hown hgrow⟩
      case measure => simp [intOf]; omega
    · obtain rfl : n = k := by omega
      clear hlt hk
      go_wp2_with fail
      refine (tr_len HW.out).mono ?_
      rintro e w' ⟨he, rfl⟩
      rw [HN.out] at he
      subst he
      go_wp2
      go_ret
      refine ⟨_, rfl, ?_, hbel⟩
      have := HN.out
      rw [← this, List.take_length] at hown
      exact hown
end Go.Proofs.Ytfkkkndigkchcaa
