/- DealTurns: what is turned by any list is as the reference says. No condition. -/
import Derived.Test.YtcehclagipdleaaDealH
import Derived.Test.YtcehclagipdleaaOpenS
namespace Go.Proofs.Ytcehclagipdleaa
open Go.ChangeShapes Go.WideShapes Go.ChangeAt Go.RowKit

theorem turnOf_len (l p : List Int) (h : l.length ≤ 1000000) : (turnOf l p).length ≤ 1000000 := by
  unfold turnOf
  split
  · rename_i h2; simp; omega
  · simp
set_option maxHeartbeats 1000000 in
theorem dealTurns_ss (a b : Option Addr) (k c j d : Nat) (l p : List Int) (w : World) (hI : Ints w w.heap.size (.slice a k c) l) (hJ : Ints w w.heap.size (.slice b j d) p) (hkc : k ≤ c) (hjd : j ≤ d) (hm : (k : Int) ≤ 9223372036854775807) (hn : (j : Int) ≤ 9223372036854775807) (hk : k ≤ 40) (hj : j ≤ 40) :
    Calls Try.prog 4 #[.slice a k c, .slice b j d] w fun e w' => e = .returned (.bool true) ∧ Below w.heap.size w w' := by
  have HI := Lib.hid hI
  have HJ := Lib.hid hJ
  clear hI hJ
  go_enter Try.func4, Try.ntmps4
  go_wp2_with fail
  refine (turned_any w.heap.size _ _ (l.take k) (p.take j) _ ((HI.out).cut (Nat.le_refl k)) ((HJ.out).cut (Nat.le_refl j)) (by simp; omega) (Nat.le_refl _)).mono ?_
  rintro e w1 ⟨u, rfl, hu, hb1⟩
  have HU := Lib.hid (And.intro hu hb1)
  clear hu hb1
  go_wp2_with fail
  refine (rturned_any w.heap.size _ _ (l.take k) (p.take j) _ (((HI.out).cut (Nat.le_refl k)).below HU.out.2 (Nat.le_refl _)) (((HJ.out).cut (Nat.le_refl j)).below HU.out.2 (Nat.le_refl _)) (by simp; omega) HU.out.2.size).mono ?_
  rintro e w2 ⟨u2, rfl, hu2, hb2⟩
  have HU2 := Lib.hid (And.intro hu2 hb2)
  clear hu2 hb2
  go_wp2_with fail
  refine (alike_any w2.heap.size u u2 _ _ _ ((HU.out.1.below HU2.out.2 (Nat.le_refl _)).mono HU2.out.2.size) HU2.out.1 (turnOf_len _ _ (by simp; omega))).mono ?_
  rintro e w3 ⟨rfl, hb3⟩
  rw [alk_same]
  have HB3 := Lib.hid hb3
  clear hb3
  go_wp2_with fail
  refine (works_any _).mono ?_
  rintro e w4 ⟨rfl, hb4⟩
  have HB4 := Lib.hid hb4
  clear hb4
  go_wp2
  go_ret
  exact ⟨by simp, fb_call (fb_call (fb_call (fb_call (Below.refl _ w) HU.out.2) HU2.out.2) HB3.out) HB4.out⟩
set_option maxHeartbeats 1000000 in
theorem dealTurns_sl (a b : Option Addr) (k c j d : Nat) (l p : List Int) (w : World) (hI : Ints w w.heap.size (.slice a k c) l) (hJ : Ints w w.heap.size (.slice b j d) p) (hkc : k ≤ c) (hjd : j ≤ d) (hm : (k : Int) ≤ 9223372036854775807) (hn : (j : Int) ≤ 9223372036854775807) (hk : k ≤ 40) (hj : 40 < j) :
    Calls Try.prog 4 #[.slice a k c, .slice b j d] w fun e w' => e = .returned (.bool true) ∧ Below w.heap.size w w' := by
  have HI := Lib.hid hI
  have HJ := Lib.hid hJ
  clear hI hJ
  go_enter Try.func4, Try.ntmps4
  go_wp2_with fail
  refine (turned_any w.heap.size _ _ (l.take k) (p.take 40) _ ((HI.out).cut (Nat.le_refl k)) ((HJ.out).cut (show 40 ≤ j by omega)) (by simp; omega) (Nat.le_refl _)).mono ?_
  rintro e w1 ⟨u, rfl, hu, hb1⟩
  have HU := Lib.hid (And.intro hu hb1)
  clear hu hb1
  go_wp2_with fail
  refine (rturned_any w.heap.size _ _ (l.take k) (p.take 40) _ (((HI.out).cut (Nat.le_refl k)).below HU.out.2 (Nat.le_refl _)) (((HJ.out).cut (show 40 ≤ j by omega)).below HU.out.2 (Nat.le_refl _)) (by simp; omega) HU.out.2.size).mono ?_
  rintro e w2 ⟨u2, rfl, hu2, hb2⟩
  have HU2 := Lib.hid (And.intro hu2 hb2)
  clear hu2 hb2
  go_wp2_with fail
  refine (alike_any w2.heap.size u u2 _ _ _ ((HU.out.1.below HU2.out.2 (Nat.le_refl _)).mono HU2.out.2.size) HU2.out.1 (turnOf_len _ _ (by simp; omega))).mono ?_
  rintro e w3 ⟨rfl, hb3⟩
  rw [alk_same]
  have HB3 := Lib.hid hb3
  clear hb3
  go_wp2_with fail
  refine (works_any _).mono ?_
  rintro e w4 ⟨rfl, hb4⟩
  have HB4 := Lib.hid hb4
  clear hb4
  go_wp2
  go_ret
  exact ⟨by simp, fb_call (fb_call (fb_call (fb_call (Below.refl _ w) HU.out.2) HU2.out.2) HB3.out) HB4.out⟩
set_option maxHeartbeats 1000000 in
theorem dealTurns_ls (a b : Option Addr) (k c j d : Nat) (l p : List Int) (w : World) (hI : Ints w w.heap.size (.slice a k c) l) (hJ : Ints w w.heap.size (.slice b j d) p) (hkc : k ≤ c) (hjd : j ≤ d) (hm : (k : Int) ≤ 9223372036854775807) (hn : (j : Int) ≤ 9223372036854775807) (hk : 40 < k) (hj : j ≤ 40) :
    Calls Try.prog 4 #[.slice a k c, .slice b j d] w fun e w' => e = .returned (.bool true) ∧ Below w.heap.size w w' := by
  have HI := Lib.hid hI
  have HJ := Lib.hid hJ
  clear hI hJ
  go_enter Try.func4, Try.ntmps4
  go_wp2_with fail
  refine (turned_any w.heap.size _ _ (l.take 40) (p.take j) _ ((HI.out).cut (show 40 ≤ k by omega)) ((HJ.out).cut (Nat.le_refl j)) (by simp; omega) (Nat.le_refl _)).mono ?_
  rintro e w1 ⟨u, rfl, hu, hb1⟩
  have HU := Lib.hid (And.intro hu hb1)
  clear hu hb1
  go_wp2_with fail
  refine (rturned_any w.heap.size _ _ (l.take 40) (p.take j) _ (((HI.out).cut (show 40 ≤ k by omega)).below HU.out.2 (Nat.le_refl _)) (((HJ.out).cut (Nat.le_refl j)).below HU.out.2 (Nat.le_refl _)) (by simp; omega) HU.out.2.size).mono ?_
  rintro e w2 ⟨u2, rfl, hu2, hb2⟩
  have HU2 := Lib.hid (And.intro hu2 hb2)
  clear hu2 hb2
  go_wp2_with fail
  refine (alike_any w2.heap.size u u2 _ _ _ ((HU.out.1.below HU2.out.2 (Nat.le_refl _)).mono HU2.out.2.size) HU2.out.1 (turnOf_len _ _ (by simp; omega))).mono ?_
  rintro e w3 ⟨rfl, hb3⟩
  rw [alk_same]
  have HB3 := Lib.hid hb3
  clear hb3
  go_wp2_with fail
  refine (works_any _).mono ?_
  rintro e w4 ⟨rfl, hb4⟩
  have HB4 := Lib.hid hb4
  clear hb4
  go_wp2
  go_ret
  exact ⟨by simp, fb_call (fb_call (fb_call (fb_call (Below.refl _ w) HU.out.2) HU2.out.2) HB3.out) HB4.out⟩
set_option maxHeartbeats 1000000 in
theorem dealTurns_ll (a b : Option Addr) (k c j d : Nat) (l p : List Int) (w : World) (hI : Ints w w.heap.size (.slice a k c) l) (hJ : Ints w w.heap.size (.slice b j d) p) (hkc : k ≤ c) (hjd : j ≤ d) (hm : (k : Int) ≤ 9223372036854775807) (hn : (j : Int) ≤ 9223372036854775807) (hk : 40 < k) (hj : 40 < j) :
    Calls Try.prog 4 #[.slice a k c, .slice b j d] w fun e w' => e = .returned (.bool true) ∧ Below w.heap.size w w' := by
  have HI := Lib.hid hI
  have HJ := Lib.hid hJ
  clear hI hJ
  go_enter Try.func4, Try.ntmps4
  go_wp2_with fail
  refine (turned_any w.heap.size _ _ (l.take 40) (p.take 40) _ ((HI.out).cut (show 40 ≤ k by omega)) ((HJ.out).cut (show 40 ≤ j by omega)) (by simp; omega) (Nat.le_refl _)).mono ?_
  rintro e w1 ⟨u, rfl, hu, hb1⟩
  have HU := Lib.hid (And.intro hu hb1)
  clear hu hb1
  go_wp2_with fail
  refine (rturned_any w.heap.size _ _ (l.take 40) (p.take 40) _ (((HI.out).cut (show 40 ≤ k by omega)).below HU.out.2 (Nat.le_refl _)) (((HJ.out).cut (show 40 ≤ j by omega)).below HU.out.2 (Nat.le_refl _)) (by simp; omega) HU.out.2.size).mono ?_
  rintro e w2 ⟨u2, rfl, hu2, hb2⟩
  have HU2 := Lib.hid (And.intro hu2 hb2)
  clear hu2 hb2
  go_wp2_with fail
  refine (alike_any w2.heap.size u u2 _ _ _ ((HU.out.1.below HU2.out.2 (Nat.le_refl _)).mono HU2.out.2.size) HU2.out.1 (turnOf_len _ _ (by simp; omega))).mono ?_
  rintro e w3 ⟨rfl, hb3⟩
  rw [alk_same]
  have HB3 := Lib.hid hb3
  clear hb3
  go_wp2_with fail
  refine (works_any _).mono ?_
  rintro e w4 ⟨rfl, hb4⟩
  have HB4 := Lib.hid hb4
  clear hb4
  go_wp2
  go_ret
  exact ⟨by simp, fb_call (fb_call (fb_call (fb_call (Below.refl _ w) HU.out.2) HU2.out.2) HB3.out) HB4.out⟩
theorem dealTurns_walk (a b : Option Addr) (k c j d : Nat) (l p : List Int) (w : World) (hI : Ints w w.heap.size (.slice a k c) l) (hJ : Ints w w.heap.size (.slice b j d) p) (hm : (k : Int) ≤ 9223372036854775807) (hn : (j : Int) ≤ 9223372036854775807) :
    Calls Try.prog 4 #[.slice a k c, .slice b j d] w fun e w' => e = .returned (.bool true) ∧ Below w.heap.size w w' := by
  by_cases hk : k ≤ 40
  · by_cases hj : j ≤ 40
    · exact dealTurns_ss a b k c j d l p w hI hJ hI.cap hJ.cap hm hn hk hj
    · exact dealTurns_sl a b k c j d l p w hI hJ hI.cap hJ.cap hm hn hk (by omega)
  · by_cases hj : j ≤ 40
    · exact dealTurns_ls a b k c j d l p w hI hJ hI.cap hJ.cap hm hn (by omega) hj
    · exact dealTurns_ll a b k c j d l p w hI hJ hI.cap hJ.cap hm hn (by omega) (by omega)

theorem dealTurns_own : ownKnob Try.prog.godebug = none := by kernel_rfl
theorem dealTurns_laidOut : laidOutB Try.prog = true := by kernel_rfl

set_option maxHeartbeats 1000000 in
set_option maxRecDepth 100000 in
theorem dealTurns_lifted (os : Os) (started : os.Started) (H : Type) (enc : TypeId × Value → H) :
    ReturnsInHanded {} Try.checked os 4 .any (Rows.dealTurnsSpec.pre6 enc Try.prog Try.f4 Rows.dealTurnsRow.domain false) (Rows.dealTurnsSpec.post enc Try.prog Try.f4 false true false false) := by
  refine returnsInHanded_of_change (C := Try.checked) dealTurns_own started (by kernel_rfl) Try.func4
    (ChangeSpec.witness6 (enc := enc) (C := Try.checked) false ⟨#[], #[.slice none 0 0, .slice none 0 0], []⟩ 8 (by kernel_rfl) (by kernel_rfl) (by kernel_rfl) (by kernel_rfl)) ?_
  intro W base args ds gs before hval0 hW hcnd _
  have hval : ∀ (j : Nat) t v, Try.f4.params[j]? = some t → args[j]? = some v → Value.okWide Try.prog W .any base t v := hval0
  have hW' := hW
  obtain ⟨p, q, hA0, hV, rfl, hfz, hnd⟩ := hW
  have hA : DataW.TrodAll enc Try.prog W 0 (fun _ => true) true Try.f4.params.toList args.toList ds p := hA0
  rw [Try.params4] at hA hval
  obtain ⟨v0, vs0, d0, ds0, p0, q0, hargs, rfl, rfl, h0, r0⟩ := trodAll_cons hA
  obtain ⟨v1, vs1, d1, ds1, p1, q1, rfl, rfl, rfl, h1, r1⟩ := trodAll_cons r0
  obtain ⟨rfl, rfl, rfl⟩ := trodAll_nil r1
  obtain rfl : args = #[v0, v1] := by cases args; simp_all
  obtain ⟨rfl, rfl⟩ := trodVars_none hV
  have k0 := h0
  have lt0 : ∀ x ∈ p0, x.block < W.heap.size := by obtain ⟨m, hm⟩ := k0; exact DataW.trod_lt m _ _ _ hm
  obtain ⟨a, c, l, rfl, hil, hwl, hml⟩ := open_intsW Try.underlying22 Try.underlying3 (by kernel_rfl) (hval 0 22 v0 rfl rfl) h0
  have k1 := h1
  have lt1 : ∀ x ∈ p1, x.block < W.heap.size := by obtain ⟨m, hm⟩ := k1; exact DataW.trod_lt m _ _ _ hm
  obtain ⟨b, d, p, rfl, hip, hwp, hmp⟩ := open_intsW Try.underlying22 Try.underlying3 (by kernel_rfl) (hval 1 22 v1 rfl rfl) h1
  clear hA0 hval0
  refine (dealTurns_walk a b l.length c p.length d l p W hil hip (by unfold maxLen at hml; omega) (by unfold maxLen at hmp; omega)).mono fun e W' ⟨he, bel⟩ => ?_
  subst he
  exact ⟨_, rfl, _, _, _, [], _, [], hW', trodAll_mk1 (shut_bool Try.underlying4 _), (trodAll_cons_mk (Below.trod dealTurns_laidOut (by kernel_rfl) (of_decide_eq_true (by kernel_rfl)) k0 bel lt0) (trodAll_cons_mk (Below.trod dealTurns_laidOut (by kernel_rfl) (of_decide_eq_true (by kernel_rfl)) k1 bel lt1) trodAll_mk0)), rfl, bel.frame _, fun h => by cases h⟩

theorem dealTurns_over : Rows.dealTurnsRow.holds Try.pinned (OpenSpec.ofChange Rows.dealTurnsSpec) :=
  OpenClaim.holds_of_wide 4 Try.f4 rfl rfl rfl rfl rfl rfl rfl ⟨rfl, rfl, rfl, rfl, rfl⟩ rfl rfl rfl rfl rfl (by kernel_rfl) Try.func4 (by kernel_rfl)
    (of_decide_eq_true (by kernel_rfl)) (by unfold Func.isWrapper; first | (rw [if_pos (by decide +kernel)]; kernel_rfl) | (rw [if_neg (by decide +kernel)]; exact ⟨rfl, rfl⟩))
    (fun os started H enc _ => dealTurns_lifted os started H enc)

/-- The statement. -/
theorem dealTurns_holds : Rows.DealTurnsSaid := dealTurns_over
#print axioms dealTurns_holds
end Go.Proofs.Ytcehclagipdleaa
