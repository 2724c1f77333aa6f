/- DealPerms: which order comes of any draws is as the reference says. No condition. -/
import Derived.Test.YtcehclagipdleaaDealH
import Derived.Test.YtcehclagipdleaaOpenS
namespace Go.Proofs.Ytcehclagipdleaa
open Go.ChangeShapes Go.WideShapes Go.ChangeAt Go.RowKit

theorem permOf_le (n : Int) (ds : List Int) : (permOf n ds).length ≤ 1000000 := by
  unfold permOf
  split
  · rw [prm_len, ids_len]; omega
  · simp
set_option maxHeartbeats 1000000 in
theorem dealPerms_as (n : Int) (a : Option Addr) (k c : Nat) (ds : List Int) (w : World) (hI : Ints w w.heap.size (.slice a k c) ds) (hkc : k ≤ c) (hm : (k : Int) ≤ 9223372036854775807) (hn : n ≤ 300) (hk : k ≤ 300) :
    Calls Try.prog 3 #[.int .i64 n, .slice a k c] w fun e w' => e = .returned (.bool true) ∧ Below w.heap.size w w' := by
  have HI := Lib.hid hI
  clear hI
  go_enter Try.func3, Try.ntmps3
  go_wp2_with fail
  refine (perm_any _ _ (ds.take k) _ ((HI.out).cut (Nat.le_refl k)) (by simp; omega)).mono ?_
  rintro e w1 ⟨u, rfl, hu, hb1⟩
  have HU := Lib.hid (And.intro hu hb1)
  clear hu hb1
  go_wp2_with fail
  refine (rperm_any _ _ (ds.take k) _ (((HI.out).cut (Nat.le_refl k)).below HU.out.2 (Nat.le_refl _) |>.mono HU.out.2.size) (by simp; omega)).mono ?_
  rintro e w2 ⟨u2, rfl, hu2, hb2⟩
  have HU2 := Lib.hid (And.intro hu2 hb2)
  clear hu2 hb2
  go_wp2_with fail
  refine (alike_any w2.heap.size u u2 _ _ _ ((HU.out.1.below HU2.out.2 (Nat.le_refl _)).mono HU2.out.2.size) HU2.out.1 (permOf_le _ _)).mono ?_
  rintro e w3 ⟨rfl, hb3⟩
  rw [alk_same]
  have HB3 := Lib.hid hb3
  clear hb3
  go_wp2_with fail
  refine (works_any _).mono ?_
  rintro e w4 ⟨rfl, hb4⟩
  have HB4 := Lib.hid hb4
  clear hb4
  go_wp2
  go_ret
  exact ⟨by simp, fb_call (fb_call (fb_call (fb_call (Below.refl _ w) HU.out.2) HU2.out.2) HB3.out) HB4.out⟩
set_option maxHeartbeats 1000000 in
theorem dealPerms_al (n : Int) (a : Option Addr) (k c : Nat) (ds : List Int) (w : World) (hI : Ints w w.heap.size (.slice a k c) ds) (hkc : k ≤ c) (hm : (k : Int) ≤ 9223372036854775807) (hn : n ≤ 300) (hk : 300 < k) :
    Calls Try.prog 3 #[.int .i64 n, .slice a k c] w fun e w' => e = .returned (.bool true) ∧ Below w.heap.size w w' := by
  have HI := Lib.hid hI
  clear hI
  go_enter Try.func3, Try.ntmps3
  go_wp2_with fail
  refine (perm_any _ _ (ds.take 300) _ ((HI.out).cut (show 300 ≤ k by omega)) (by simp; omega)).mono ?_
  rintro e w1 ⟨u, rfl, hu, hb1⟩
  have HU := Lib.hid (And.intro hu hb1)
  clear hu hb1
  go_wp2_with fail
  refine (rperm_any _ _ (ds.take 300) _ (((HI.out).cut (show 300 ≤ k by omega)).below HU.out.2 (Nat.le_refl _) |>.mono HU.out.2.size) (by simp; omega)).mono ?_
  rintro e w2 ⟨u2, rfl, hu2, hb2⟩
  have HU2 := Lib.hid (And.intro hu2 hb2)
  clear hu2 hb2
  go_wp2_with fail
  refine (alike_any w2.heap.size u u2 _ _ _ ((HU.out.1.below HU2.out.2 (Nat.le_refl _)).mono HU2.out.2.size) HU2.out.1 (permOf_le _ _)).mono ?_
  rintro e w3 ⟨rfl, hb3⟩
  rw [alk_same]
  have HB3 := Lib.hid hb3
  clear hb3
  go_wp2_with fail
  refine (works_any _).mono ?_
  rintro e w4 ⟨rfl, hb4⟩
  have HB4 := Lib.hid hb4
  clear hb4
  go_wp2
  go_ret
  exact ⟨by simp, fb_call (fb_call (fb_call (fb_call (Below.refl _ w) HU.out.2) HU2.out.2) HB3.out) HB4.out⟩
set_option maxHeartbeats 1000000 in
theorem dealPerms_bs (n : Int) (a : Option Addr) (k c : Nat) (ds : List Int) (w : World) (hI : Ints w w.heap.size (.slice a k c) ds) (hkc : k ≤ c) (hm : (k : Int) ≤ 9223372036854775807) (hn : 4096 < n) (hk : k ≤ 300) :
    Calls Try.prog 3 #[.int .i64 n, .slice a k c] w fun e w' => e = .returned (.bool true) ∧ Below w.heap.size w w' := by
  have HI := Lib.hid hI
  clear hI
  have hn1 : 300 < n := by omega
  go_enter Try.func3, Try.ntmps3
  go_wp2_with fail
  refine (perm_any _ _ (ds.take k) _ ((HI.out).cut (Nat.le_refl k)) (by simp; omega)).mono ?_
  rintro e w1 ⟨u, rfl, hu, hb1⟩
  have HU := Lib.hid (And.intro hu hb1)
  clear hu hb1
  go_wp2_with fail
  refine (rperm_any _ _ (ds.take k) _ (((HI.out).cut (Nat.le_refl k)).below HU.out.2 (Nat.le_refl _) |>.mono HU.out.2.size) (by simp; omega)).mono ?_
  rintro e w2 ⟨u2, rfl, hu2, hb2⟩
  have HU2 := Lib.hid (And.intro hu2 hb2)
  clear hu2 hb2
  go_wp2_with fail
  refine (alike_any w2.heap.size u u2 _ _ _ ((HU.out.1.below HU2.out.2 (Nat.le_refl _)).mono HU2.out.2.size) HU2.out.1 (permOf_le _ _)).mono ?_
  rintro e w3 ⟨rfl, hb3⟩
  rw [alk_same]
  have HB3 := Lib.hid hb3
  clear hb3
  go_wp2_with fail
  refine (works_any _).mono ?_
  rintro e w4 ⟨rfl, hb4⟩
  have HB4 := Lib.hid hb4
  clear hb4
  go_wp2
  go_ret
  exact ⟨by simp, fb_call (fb_call (fb_call (fb_call (Below.refl _ w) HU.out.2) HU2.out.2) HB3.out) HB4.out⟩
set_option maxHeartbeats 1000000 in
theorem dealPerms_bl (n : Int) (a : Option Addr) (k c : Nat) (ds : List Int) (w : World) (hI : Ints w w.heap.size (.slice a k c) ds) (hkc : k ≤ c) (hm : (k : Int) ≤ 9223372036854775807) (hn : 4096 < n) (hk : 300 < k) :
    Calls Try.prog 3 #[.int .i64 n, .slice a k c] w fun e w' => e = .returned (.bool true) ∧ Below w.heap.size w w' := by
  have HI := Lib.hid hI
  clear hI
  have hn1 : 300 < n := by omega
  go_enter Try.func3, Try.ntmps3
  go_wp2_with fail
  refine (perm_any _ _ (ds.take 300) _ ((HI.out).cut (show 300 ≤ k by omega)) (by simp; omega)).mono ?_
  rintro e w1 ⟨u, rfl, hu, hb1⟩
  have HU := Lib.hid (And.intro hu hb1)
  clear hu hb1
  go_wp2_with fail
  refine (rperm_any _ _ (ds.take 300) _ (((HI.out).cut (show 300 ≤ k by omega)).below HU.out.2 (Nat.le_refl _) |>.mono HU.out.2.size) (by simp; omega)).mono ?_
  rintro e w2 ⟨u2, rfl, hu2, hb2⟩
  have HU2 := Lib.hid (And.intro hu2 hb2)
  clear hu2 hb2
  go_wp2_with fail
  refine (alike_any w2.heap.size u u2 _ _ _ ((HU.out.1.below HU2.out.2 (Nat.le_refl _)).mono HU2.out.2.size) HU2.out.1 (permOf_le _ _)).mono ?_
  rintro e w3 ⟨rfl, hb3⟩
  rw [alk_same]
  have HB3 := Lib.hid hb3
  clear hb3
  go_wp2_with fail
  refine (works_any _).mono ?_
  rintro e w4 ⟨rfl, hb4⟩
  have HB4 := Lib.hid hb4
  clear hb4
  go_wp2
  go_ret
  exact ⟨by simp, fb_call (fb_call (fb_call (fb_call (Below.refl _ w) HU.out.2) HU2.out.2) HB3.out) HB4.out⟩
set_option maxHeartbeats 1000000 in
theorem dealPerms_cs (n : Int) (a : Option Addr) (k c : Nat) (ds : List Int) (w : World) (hI : Ints w w.heap.size (.slice a k c) ds) (hkc : k ≤ c) (hm : (k : Int) ≤ 9223372036854775807) (hn1 : 300 < n) (hn : n ≤ 4096) (hk : k ≤ 300) :
    Calls Try.prog 3 #[.int .i64 n, .slice a k c] w fun e w' => e = .returned (.bool true) ∧ Below w.heap.size w w' := by
  have HI := Lib.hid hI
  clear hI
  go_enter Try.func3, Try.ntmps3
  go_wp2_with fail
  refine (perm_any _ _ (ds.take k) _ ((HI.out).cut (Nat.le_refl k)) (by simp; omega)).mono ?_
  rintro e w1 ⟨u, rfl, hu, hb1⟩
  have HU := Lib.hid (And.intro hu hb1)
  clear hu hb1
  go_wp2_with fail
  refine (rperm_any _ _ (ds.take k) _ (((HI.out).cut (Nat.le_refl k)).below HU.out.2 (Nat.le_refl _) |>.mono HU.out.2.size) (by simp; omega)).mono ?_
  rintro e w2 ⟨u2, rfl, hu2, hb2⟩
  have HU2 := Lib.hid (And.intro hu2 hb2)
  clear hu2 hb2
  go_wp2_with fail
  refine (alike_any w2.heap.size u u2 _ _ _ ((HU.out.1.below HU2.out.2 (Nat.le_refl _)).mono HU2.out.2.size) HU2.out.1 (permOf_le _ _)).mono ?_
  rintro e w3 ⟨rfl, hb3⟩
  rw [alk_same]
  have HB3 := Lib.hid hb3
  clear hb3
  go_wp2_with fail
  refine (works_any _).mono ?_
  rintro e w4 ⟨rfl, hb4⟩
  have HB4 := Lib.hid hb4
  clear hb4
  go_wp2
  go_ret
  exact ⟨by simp, fb_call (fb_call (fb_call (fb_call (Below.refl _ w) HU.out.2) HU2.out.2) HB3.out) HB4.out⟩
set_option maxHeartbeats 1000000 in
theorem dealPerms_cl (n : Int) (a : Option Addr) (k c : Nat) (ds : List Int) (w : World) (hI : Ints w w.heap.size (.slice a k c) ds) (hkc : k ≤ c) (hm : (k : Int) ≤ 9223372036854775807) (hn1 : 300 < n) (hn : n ≤ 4096) (hk : 300 < k) :
    Calls Try.prog 3 #[.int .i64 n, .slice a k c] w fun e w' => e = .returned (.bool true) ∧ Below w.heap.size w w' := by
  have HI := Lib.hid hI
  clear hI
  go_enter Try.func3, Try.ntmps3
  go_wp2_with fail
  refine (perm_any _ _ (ds.take 300) _ ((HI.out).cut (show 300 ≤ k by omega)) (by simp; omega)).mono ?_
  rintro e w1 ⟨u, rfl, hu, hb1⟩
  have HU := Lib.hid (And.intro hu hb1)
  clear hu hb1
  go_wp2_with fail
  refine (rperm_any _ _ (ds.take 300) _ (((HI.out).cut (show 300 ≤ k by omega)).below HU.out.2 (Nat.le_refl _) |>.mono HU.out.2.size) (by simp; omega)).mono ?_
  rintro e w2 ⟨u2, rfl, hu2, hb2⟩
  have HU2 := Lib.hid (And.intro hu2 hb2)
  clear hu2 hb2
  go_wp2_with fail
  refine (alike_any w2.heap.size u u2 _ _ _ ((HU.out.1.below HU2.out.2 (Nat.le_refl _)).mono HU2.out.2.size) HU2.out.1 (permOf_le _ _)).mono ?_
  rintro e w3 ⟨rfl, hb3⟩
  rw [alk_same]
  have HB3 := Lib.hid hb3
  clear hb3
  go_wp2_with fail
  refine (works_any _).mono ?_
  rintro e w4 ⟨rfl, hb4⟩
  have HB4 := Lib.hid hb4
  clear hb4
  go_wp2
  go_ret
  exact ⟨by simp, fb_call (fb_call (fb_call (fb_call (Below.refl _ w) HU.out.2) HU2.out.2) HB3.out) HB4.out⟩
theorem dealPerms_walk (n : Int) (a : Option Addr) (k c : Nat) (ds : List Int) (w : World) (hI : Ints w w.heap.size (.slice a k c) ds) (hkc : k ≤ c) (hm : (k : Int) ≤ 9223372036854775807) :
    Calls Try.prog 3 #[.int .i64 n, .slice a k c] w fun e w' => e = .returned (.bool true) ∧ Below w.heap.size w w' := by
  by_cases hk : k ≤ 300
  · by_cases h1 : n ≤ 300
    · exact dealPerms_as n a k c ds w hI hkc hm h1 hk
    · by_cases h2 : n ≤ 4096
      · exact dealPerms_cs n a k c ds w hI hkc hm (by omega) h2 hk
      · exact dealPerms_bs n a k c ds w hI hkc hm (by omega) hk
  · by_cases h1 : n ≤ 300
    · exact dealPerms_al n a k c ds w hI hkc hm h1 (by omega)
    · by_cases h2 : n ≤ 4096
      · exact dealPerms_cl n a k c ds w hI hkc hm (by omega) h2 (by omega)
      · exact dealPerms_bl n a k c ds w hI hkc hm (by omega) (by omega)

theorem dealPerms_own : ownKnob Try.prog.godebug = none := by kernel_rfl
theorem dealPerms_laidOut : laidOutB Try.prog = true := by kernel_rfl

set_option maxHeartbeats 1000000 in
set_option maxRecDepth 100000 in
theorem dealPerms_lifted (os : Os) (started : os.Started) (H : Type) (enc : TypeId × Value → H) :
    ReturnsInHanded {} Try.checked os 3 .any (Rows.dealPermsSpec.pre6 enc Try.prog Try.f3 Rows.dealPermsRow.domain false) (Rows.dealPermsSpec.post enc Try.prog Try.f3 false true false false) := by
  refine returnsInHanded_of_change (C := Try.checked) dealPerms_own started (by kernel_rfl) Try.func3
    (ChangeSpec.witness6 (enc := enc) (C := Try.checked) false ⟨#[], #[.int .i64 0, .slice none 0 0], []⟩ 8 (by kernel_rfl) (by kernel_rfl) (by kernel_rfl) (by kernel_rfl)) ?_
  intro W base args ds gs before hval0 hW hcnd _
  have hval : ∀ (j : Nat) t v, Try.f3.params[j]? = some t → args[j]? = some v → Value.okWide Try.prog W .any base t v := hval0
  have hW' := hW
  obtain ⟨p, q, hA0, hV, rfl, hfz, hnd⟩ := hW
  have hA : DataW.TrodAll enc Try.prog W 0 (fun _ => true) true Try.f3.params.toList args.toList ds p := hA0
  rw [Try.params3] at hA hval
  obtain ⟨v0, vs0, d0, ds0, p0, q0, hargs, rfl, rfl, h0, r0⟩ := trodAll_cons hA
  obtain ⟨v1, vs1, d1, ds1, p1, q1, rfl, rfl, rfl, h1, r1⟩ := trodAll_cons r0
  obtain ⟨rfl, rfl, rfl⟩ := trodAll_nil r1
  obtain rfl : args = #[v0, v1] := by cases args; simp_all
  obtain ⟨rfl, rfl⟩ := trodVars_none hV
  have k0 := h0
  have lt0 : ∀ x ∈ p0, x.block < W.heap.size := by obtain ⟨m, hm⟩ := k0; exact DataW.trod_lt m _ _ _ hm
  obtain ⟨n, rfl, en1, en2, wfn⟩ := open_int Try.underlying3 (hval 0 3 v0 rfl rfl) h0
  have k1 := h1
  have lt1 : ∀ x ∈ p1, x.block < W.heap.size := by obtain ⟨m, hm⟩ := k1; exact DataW.trod_lt m _ _ _ hm
  obtain ⟨a, c, l, rfl, hil, hwl, hml⟩ := open_intsW Try.underlying22 Try.underlying3 (by kernel_rfl) (hval 1 22 v1 rfl rfl) h1
  clear hA0 hval0
  refine (dealPerms_walk n a l.length c l W hil hil.cap (by unfold maxLen at hml; omega)).mono fun e W' ⟨he, bel⟩ => ?_
  subst he
  exact ⟨_, rfl, _, _, _, [], _, [], hW', trodAll_mk1 (shut_bool Try.underlying4 _), (trodAll_cons_mk (Below.trod dealPerms_laidOut (by kernel_rfl) (of_decide_eq_true (by kernel_rfl)) k0 bel lt0) (trodAll_cons_mk (Below.trod dealPerms_laidOut (by kernel_rfl) (of_decide_eq_true (by kernel_rfl)) k1 bel lt1) trodAll_mk0)), rfl, bel.frame _, fun h => by cases h⟩

theorem dealPerms_over : Rows.dealPermsRow.holds Try.pinned (OpenSpec.ofChange Rows.dealPermsSpec) :=
  OpenClaim.holds_of_wide 3 Try.f3 rfl rfl rfl rfl rfl rfl rfl ⟨rfl, rfl, rfl, rfl, rfl⟩ rfl rfl rfl rfl rfl (by kernel_rfl) Try.func3 (by kernel_rfl)
    (of_decide_eq_true (by kernel_rfl)) (by unfold Func.isWrapper; first | (rw [if_pos (by decide +kernel)]; kernel_rfl) | (rw [if_neg (by decide +kernel)]; exact ⟨rfl, rfl⟩))
    (fun os started H enc _ => dealPerms_lifted os started H enc)

/-- The statement. -/
theorem dealPerms_holds : Rows.DealPermsSaid := dealPerms_over
#print axioms dealPerms_holds
end Go.Proofs.Ytcehclagipdleaa
