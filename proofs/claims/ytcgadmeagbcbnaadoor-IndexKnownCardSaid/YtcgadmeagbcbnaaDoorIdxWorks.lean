/- The law's works. No condition but the library's table. -/
import Derived.Test.YtcgadmeagbcbnaaDoorIdxThree
import Derived.Test.YtcgadmeagbcbnaaDoorIdxBc
namespace Go.Proofs.YtcgadmeagbcbnaaDoor
open Go.RowKit
attribute [local irreducible] Calls

theorem wf_having {abs : List (List (Int × Int))} {m : IM} (h : IGood abs m) (kd e : Int) : wfB (havingI kd e m) := by
  unfold havingI; split
  · exact wf_zero
  · exact h.wf _ (kx_lt _ _)
set_option maxRecDepth 100000 in
set_option maxHeartbeats 4000000 in
theorem works_any (w : World) (hT : TabAt w) (h0 : 0 < w.heap.size) : Calls Tryd.prog 28 #[] w fun e w' => e = .returned (.bool true) ∧ Below w.heap.size w w' := by
  have HTT := Lib.hid (And.intro hT h0)
  clear hT h0
  go_enter Tryd.func28, Tryd.ntmps28
  go_wp2_with fail
  refine (tr_new w).mono ?_
  rintro e wa_ ⟨rfl, hT0_⟩
  have HT1 := Lib.hid (hT0_ w (Below.refl _ _))
  obtain ⟨T, hTn_⟩ : ∃ T, w.heap.size = T := ⟨_, rfl⟩
  have HTN := Lib.hid hTn_
  rw [hTn_] at HT1 ⊢
  clear hT0_ hTn_
  go_wp2_with fail
  refine (three_any wa_).mono ?_
  rintro e wb_ ⟨u_, vs_, rfl, hp_⟩
  have HP_ := Lib.hid hp_
  clear hp_
  go_wp2_with fail
  refine (inew_any (w0 := w) (col := fun j => if j < w.heap.size then 0 else 1) (c := 1) (HT1.out.1.below HP_.out.bel) (fun j hj => if_neg (Nat.not_lt.2 (HT1.out.1.base hj).1)) (by simp) (by simp) HP_.out.cards abs3_len abs3_five abs3_wf (fun _ => True) trivial (fun _ _ _ _ _ _ => trivial)).mono ?_
  rintro e wc_ ⟨b, q, rfl, hbT_, hba_, _, _, hN_⟩
  have HBT := Lib.hid hbT_
  have HA := Lib.hid hba_
  obtain ⟨M0_, hM0_⟩ : ∃ m, M0 = m := ⟨_, rfl⟩
  have hn0_ : IS w wc_ (recol wb_.heap.size (fun j => if j < w.heap.size then 0 else 1) 1) 1 b 100 q M0 := hN_.1.mono (n := 100) (by simp)
  have hg0_ := good_zero b.abs
  rw [hM0_] at hn0_ hg0_
  have HS := Lib.hid hn0_
  have HG := Lib.hid hg0_
  have HM0_ := Lib.hid hM0_
  clear hbT_ hba_ hN_ hM0_ HT1 HP_ hn0_ hg0_
  go_wp2_with fail
  refine (put_any HS.out HG.out (by omega) 3 1).mono ?_
  rintro e w1_ ⟨rfl, hN_⟩
  obtain ⟨M1_, hM1_⟩ : ∃ m, putI b.abs 3 1 M0_ = m := ⟨_, rfl⟩
  rw [hM1_] at hN_
  have HS2_ := Lib.hid (hN_.1.mono (n := 160) (by omega))
  have HG2_ := Lib.hid (show IGood b.abs M1_ from hM1_ ▸ good_put HG.out 3 1)
  have HM1_ := Lib.hid hM1_
  clear hN_ HS HG hM1_
  have HS := HS2_
  have HG := HG2_
  clear HS2_ HG2_
  go_wp2_with fail
  refine (put_any HS.out HG.out (by omega) 9 2).mono ?_
  rintro e w2_ ⟨rfl, hN_⟩
  obtain ⟨M2_, hM2_⟩ : ∃ m, putI b.abs 9 2 M1_ = m := ⟨_, rfl⟩
  rw [hM2_] at hN_
  have HS2_ := Lib.hid (hN_.1.mono (n := 220) (by omega))
  have HG2_ := Lib.hid (show IGood b.abs M2_ from hM2_ ▸ good_put HG.out 9 2)
  have HM2_ := Lib.hid hM2_
  clear hN_ HS HG hM2_
  have HS := HS2_
  have HG := HG2_
  clear HS2_ HG2_
  go_wp2_with fail
  refine (put_any HS.out HG.out (by omega) 4 0).mono ?_
  rintro e w3_ ⟨rfl, hN_⟩
  obtain ⟨M3_, hM3_⟩ : ∃ m, putI b.abs 4 0 M2_ = m := ⟨_, rfl⟩
  rw [hM3_] at hN_
  have HS2_ := Lib.hid (hN_.1.mono (n := 280) (by omega))
  have HG2_ := Lib.hid (show IGood b.abs M3_ from hM3_ ▸ good_put HG.out 4 0)
  have HM3_ := Lib.hid hM3_
  clear hN_ HS HG hM3_
  have HS := HS2_
  have HG := HG2_
  clear HS2_ HG2_
  go_wp2_with fail
  refine (having_any HS.out 3 2 (wf_lit (by decide))).mono ?_
  rintro e w4_ ⟨rfl, hb_⟩
  have HF := Lib.hid (show lst (havingI 3 2 M3_) = [3, 9] from by rw [← HM3_.out, ← HM2_.out, ← HM1_.out, ← HM0_.out, HA.out]; kernel_rfl)
  have HWF := Lib.hid (show wfB (havingI 3 2 M3_) from wf_having HG.out 3 2)
  have HS2_ := Lib.hid (HS.out.below hb_ 1)
  clear HS
  have HS := HS2_
  clear HS2_
  clear hb_
  generalize havingI 3 2 M3_ = S1_ at HF HWF ⊢
  go_wp2_with fail
  refine (ball_any HWF.out _ (HTT.out.1.below HTT.out.2 HS.out.bel) (Nat.lt_of_lt_of_le HTT.out.2 HS.out.bel.size)).mono ?_
  rintro e w5_ ⟨v_, rfl, hI_, hb_⟩
  rw [HF.out] at hI_
  have HI := Lib.hid hI_
  have HS2_ := Lib.hid (HS.out.below hb_ 1)
  clear HS
  have HS := HS2_
  clear HS2_
  clear hb_ hI_ HF HWF
  go_wp2_with fail
  refine (ints_eq (w5_.heap.size + 1) _ _ (zl [3, 9]) _ ((HI.out.below (fb_alloc (Below.refl _ _) _) (Nat.le_refl _)).mono (Nat.le_succ _)) (ints_lit w5_ (zl [3, 9])) (by decide)).mono ?_
  rintro e w6_ ⟨rfl, hb_⟩
  have HS2_ := Lib.hid (HS.out.below (fb_call (fb_alloc (Below.refl _ _) _) hb_) 1)
  clear HS
  have HS := HS2_
  clear HS2_
  clear hb_ HI
  go_wp2_with fail
  refine (having_any HS.out 4 0 (wf_lit (by decide))).mono ?_
  rintro e w7_ ⟨rfl, hb_⟩
  have HF := Lib.hid (show lst (havingI 4 0 M3_) = [9] from by rw [← HM3_.out, ← HM2_.out, ← HM1_.out, ← HM0_.out, HA.out]; kernel_rfl)
  have HWF := Lib.hid (show wfB (havingI 4 0 M3_) from wf_having HG.out 4 0)
  have HS2_ := Lib.hid (HS.out.below hb_ 1)
  clear HS
  have HS := HS2_
  clear HS2_
  clear hb_
  generalize havingI 4 0 M3_ = S2_ at HF HWF ⊢
  go_wp2_with fail
  refine (ball_any HWF.out _ (HTT.out.1.below HTT.out.2 HS.out.bel) (Nat.lt_of_lt_of_le HTT.out.2 HS.out.bel.size)).mono ?_
  rintro e w8_ ⟨v_, rfl, hI_, hb_⟩
  rw [HF.out] at hI_
  have HI := Lib.hid hI_
  have HS2_ := Lib.hid (HS.out.below hb_ 1)
  clear HS
  have HS := HS2_
  clear HS2_
  clear hb_ hI_ HF HWF
  go_wp2_with fail
  refine (ints_eq (w8_.heap.size + 1) _ _ (zl [9]) _ ((HI.out.below (fb_alloc (Below.refl _ _) _) (Nat.le_refl _)).mono (Nat.le_succ _)) (ints_lit w8_ (zl [9])) (by decide)).mono ?_
  rintro e w9_ ⟨rfl, hb_⟩
  have HS2_ := Lib.hid (HS.out.below (fb_call (fb_alloc (Below.refl _ _) _) hb_) 1)
  clear HS
  have HS := HS2_
  clear HS2_
  clear hb_ HI
  go_wp2_with fail
  refine (having_any HS.out 3 3 (wf_lit (by decide))).mono ?_
  rintro e w10_ ⟨rfl, hb_⟩
  have HF := Lib.hid (show (lst (havingI 3 3 M3_)).length = 0 from by rw [← HM3_.out, ← HM2_.out, ← HM1_.out, ← HM0_.out, HA.out]; kernel_rfl)
  have HWF := Lib.hid (show wfB (havingI 3 3 M3_) from wf_having HG.out 3 3)
  have HS2_ := Lib.hid (HS.out.below hb_ 1)
  clear HS
  have HS := HS2_
  clear HS2_
  clear hb_
  generalize havingI 3 3 M3_ = S3_ at HF HWF ⊢
  have hc_ := blen_any HWF.out w10_
  rw [HF.out] at hc_
  go_wp2_with fail
  refine hc_.mono ?_
  rintro e w11_ ⟨rfl, hb_⟩
  have HS2_ := Lib.hid (HS.out.below hb_ 1)
  clear HS
  have HS := HS2_
  clear HS2_
  clear hb_ hc_ HF HWF
  go_wp2_with fail
  refine (put_any HS.out HG.out (by omega) 9 1).mono ?_
  rintro e w12_ ⟨rfl, hN_⟩
  obtain ⟨M4_, hM4_⟩ : ∃ m, putI b.abs 9 1 M3_ = m := ⟨_, rfl⟩
  rw [hM4_] at hN_
  have HS2_ := Lib.hid (hN_.1.mono (n := 340) (by omega))
  have HG2_ := Lib.hid (show IGood b.abs M4_ from hM4_ ▸ good_put HG.out 9 1)
  have HM4_ := Lib.hid hM4_
  clear hN_ HS HG hM4_
  have HS := HS2_
  have HG := HG2_
  clear HS2_ HG2_
  go_wp2_with fail
  refine (having_any HS.out 4 0 (wf_lit (by decide))).mono ?_
  rintro e w13_ ⟨rfl, hb_⟩
  have HF := Lib.hid (show (lst (havingI 4 0 M4_)).length = 0 from by rw [← HM4_.out, ← HM3_.out, ← HM2_.out, ← HM1_.out, ← HM0_.out, HA.out]; kernel_rfl)
  have HWF := Lib.hid (show wfB (havingI 4 0 M4_) from wf_having HG.out 4 0)
  have HS2_ := Lib.hid (HS.out.below hb_ 1)
  clear HS
  have HS := HS2_
  clear HS2_
  clear hb_
  generalize havingI 4 0 M4_ = S4_ at HF HWF ⊢
  have hc_ := blen_any HWF.out w13_
  rw [HF.out] at hc_
  go_wp2_with fail
  refine hc_.mono ?_
  rintro e w14_ ⟨rfl, hb_⟩
  have HS2_ := Lib.hid (HS.out.below hb_ 1)
  clear HS
  have HS := HS2_
  clear HS2_
  clear hb_ hc_ HF HWF
  go_wp2_with fail
  refine (take_any HS.out HG.out (by omega) 3).mono ?_
  rintro e w15_ ⟨rfl, hN_⟩
  obtain ⟨M5_, hM5_⟩ : ∃ m, takeI b.abs 3 M4_ = m := ⟨_, rfl⟩
  rw [hM5_] at hN_
  have HS2_ := Lib.hid (hN_.1.mono (n := 450) (by omega))
  have HG2_ := Lib.hid (show IGood b.abs M5_ from hM5_ ▸ good_take HG.out 3)
  have HM5_ := Lib.hid hM5_
  clear hN_ HS HG hM5_
  have HS := HS2_
  have HG := HG2_
  clear HS2_ HG2_
  go_wp2_with fail
  refine (having_any HS.out 3 2 (wf_lit (by decide))).mono ?_
  rintro e w16_ ⟨rfl, hb_⟩
  have HF := Lib.hid (show lst (havingI 3 2 M5_) = [9] from by rw [← HM5_.out, ← HM4_.out, ← HM3_.out, ← HM2_.out, ← HM1_.out, ← HM0_.out, HA.out]; kernel_rfl)
  have HWF := Lib.hid (show wfB (havingI 3 2 M5_) from wf_having HG.out 3 2)
  have HS2_ := Lib.hid (HS.out.below hb_ 1)
  clear HS
  have HS := HS2_
  clear HS2_
  clear hb_
  generalize havingI 3 2 M5_ = S5_ at HF HWF ⊢
  go_wp2_with fail
  refine (ball_any HWF.out _ (HTT.out.1.below HTT.out.2 HS.out.bel) (Nat.lt_of_lt_of_le HTT.out.2 HS.out.bel.size)).mono ?_
  rintro e w17_ ⟨v_, rfl, hI_, hb_⟩
  rw [HF.out] at hI_
  have HI := Lib.hid hI_
  have HS2_ := Lib.hid (HS.out.below hb_ 1)
  clear HS
  have HS := HS2_
  clear HS2_
  clear hb_ hI_ HF HWF
  go_wp2_with fail
  refine (ints_eq (w17_.heap.size + 1) _ _ (zl [9]) _ ((HI.out.below (fb_alloc (Below.refl _ _) _) (Nat.le_refl _)).mono (Nat.le_succ _)) (ints_lit w17_ (zl [9])) (by decide)).mono ?_
  rintro e w18_ ⟨rfl, hb_⟩
  have HS2_ := Lib.hid (HS.out.below (fb_call (fb_alloc (Below.refl _ _) _) hb_) 1)
  clear HS
  have HS := HS2_
  clear HS2_
  clear hb_ HI
  have hc_ := icard_any HS.out HG.out 3
  rw [show cardI 3 M5_ = -1 from by rw [← HM5_.out, ← HM4_.out, ← HM3_.out, ← HM2_.out, ← HM1_.out, ← HM0_.out, HA.out]; kernel_rfl] at hc_
  go_wp2_with fail
  refine hc_.mono ?_
  rintro e w19_ ⟨rfl, nd_, hb_⟩
  have hb2_ := hb_ ▸ fb_drewN (Below.refl _ _) nd_
  have HS2_ := Lib.hid (HS.out.below hb2_ 1)
  clear HS
  have HS := HS2_
  clear HS2_
  clear hb_ hb2_ hc_
  have hc_ := icard_any HS.out HG.out 9
  rw [show cardI 9 M5_ = 1 from by rw [← HM5_.out, ← HM4_.out, ← HM3_.out, ← HM2_.out, ← HM1_.out, ← HM0_.out, HA.out]; kernel_rfl] at hc_
  go_wp2_with fail
  refine hc_.mono ?_
  rintro e w20_ ⟨rfl, nd_, hb_⟩
  have hb2_ := hb_ ▸ fb_drewN (Below.refl _ _) nd_
  have HS2_ := Lib.hid (HS.out.below hb2_ 1)
  clear HS
  have HS := HS2_
  clear HS2_
  clear hb_ hb2_ hc_
  go_wp2_with fail
  refine (touch_any HS.out (by omega) 9).mono ?_
  rintro e w21_ ⟨rfl, hN_⟩
  obtain ⟨M6_, hM6_⟩ : ∃ m, touchI 9 M5_ = m := ⟨_, rfl⟩
  rw [hM6_] at hN_
  have HS2_ := Lib.hid (hN_.1.mono (n := 510) (by omega))
  have HG2_ := Lib.hid (show IGood b.abs M6_ from hM6_ ▸ good_touch HG.out 9)
  have HM6_ := Lib.hid hM6_
  clear hN_ HS HG hM6_
  have HS := HS2_
  have HG := HG2_
  clear HS2_ HG2_
  have hc_ := is_mark HS.out
  rw [HBT.out] at hc_
  go_wp2_with fail
  refine hc_.mono ?_
  rintro e w_ ⟨q_, x_, rfl, hM_, hS_, _, rfl⟩
  have HS2_ := Lib.hid hS_
  have HMK := Lib.hid hM_
  clear hM_ hS_ HS hc_
  have HS := HS2_
  clear HS2_
  have HGM := HG
  go_wp2_with fail
  refine (take_any HS.out HG.out (by omega) 9).mono ?_
  rintro e w22_ ⟨rfl, hN_⟩
  obtain ⟨M7_, hM7_⟩ : ∃ m, takeI b.abs 9 M6_ = m := ⟨_, rfl⟩
  rw [hM7_] at hN_
  have HS2_ := Lib.hid (hN_.1.mono (n := 620) (by omega))
  have HG2_ := Lib.hid (show IGood b.abs M7_ from hM7_ ▸ good_take HG.out 9)
  have HM7_ := Lib.hid hM7_
  clear hN_ HS HG hM7_
  have HS := HS2_
  have HG := HG2_
  clear HS2_ HG2_
  go_wp2_with fail
  refine (touched_yes HS.out).mono ?_
  rintro e w23_ ⟨rfl, hb_⟩
  have HF := Lib.hid (show (lst (M7_.Z 0)).length = 0 from by rw [← HM7_.out, ← HM6_.out, ← HM5_.out, ← HM4_.out, ← HM3_.out, ← HM2_.out, ← HM1_.out, ← HM0_.out, HA.out]; kernel_rfl)
  have HWF := Lib.hid (show wfB (M7_.Z 0) from HG.out.wf 0 (by omega))
  have HS2_ := Lib.hid (HS.out.below hb_ 1)
  clear HS
  have HS := HS2_
  clear HS2_
  clear hb_
  generalize M7_.Z 0 = S6_ at HF HWF ⊢
  have hc_ := blen_any HWF.out w23_
  rw [HF.out] at hc_
  go_wp2_with fail
  refine hc_.mono ?_
  rintro e w24_ ⟨rfl, hb_⟩
  have HS2_ := Lib.hid (HS.out.below hb_ 1)
  clear HS
  have HS := HS2_
  clear HS2_
  clear hb_ hc_ HF HWF
  have hc_ := is_back HS.out (by omega) HMK.out
  rw [HBT.out] at hc_
  go_wp2_with fail
  refine hc_.mono ?_
  rintro e w25_ ⟨rfl, hN_⟩
  have HS2_ := Lib.hid (hN_.1.mono (n := 630) (by omega))
  clear hN_ HS HG hc_
  have HS := HS2_
  have HG := HGM
  clear HS2_
  go_wp2_with fail
  refine (touched_yes HS.out).mono ?_
  rintro e w26_ ⟨rfl, hb_⟩
  have HF := Lib.hid (show lst (M6_.Z 0) = [9] from by rw [← HM6_.out, ← HM5_.out, ← HM4_.out, ← HM3_.out, ← HM2_.out, ← HM1_.out, ← HM0_.out, HA.out]; kernel_rfl)
  have HWF := Lib.hid (show wfB (M6_.Z 0) from HG.out.wf 0 (by omega))
  have HS2_ := Lib.hid (HS.out.below hb_ 1)
  clear HS
  have HS := HS2_
  clear HS2_
  clear hb_
  generalize M6_.Z 0 = S7_ at HF HWF ⊢
  go_wp2_with fail
  refine (ball_any HWF.out _ (HTT.out.1.below HTT.out.2 HS.out.bel) (Nat.lt_of_lt_of_le HTT.out.2 HS.out.bel.size)).mono ?_
  rintro e w27_ ⟨v_, rfl, hI_, hb_⟩
  rw [HF.out] at hI_
  have HI := Lib.hid hI_
  have HS2_ := Lib.hid (HS.out.below hb_ 1)
  clear HS
  have HS := HS2_
  clear HS2_
  clear hb_ hI_ HF HWF
  go_wp2_with fail
  refine (ints_eq (w27_.heap.size + 1) _ _ (zl [9]) _ ((HI.out.below (fb_alloc (Below.refl _ _) _) (Nat.le_refl _)).mono (Nat.le_succ _)) (ints_lit w27_ (zl [9])) (by decide)).mono ?_
  rintro e w28_ ⟨rfl, hb_⟩
  have HS2_ := Lib.hid (HS.out.below (fb_call (fb_alloc (Below.refl _ _) _) hb_) 1)
  clear HS
  have HS := HS2_
  clear HS2_
  clear hb_ HI
  have hc_ := icard_any HS.out HG.out 9
  rw [show cardI 9 M6_ = 1 from by rw [← HM6_.out, ← HM5_.out, ← HM4_.out, ← HM3_.out, ← HM2_.out, ← HM1_.out, ← HM0_.out, HA.out]; kernel_rfl] at hc_
  go_wp2_with fail
  refine hc_.mono ?_
  rintro e w29_ ⟨rfl, nd_, hb_⟩
  have hb2_ := hb_ ▸ fb_drewN (Below.refl _ _) nd_
  have HS2_ := Lib.hid (HS.out.below hb2_ 1)
  clear HS
  have HS := HS2_
  clear HS2_
  clear hb_ hb2_ hc_
  have HBEL := Lib.hid HS.out.bel
  go_wp2
  go_ret
  exact ⟨rfl, HBEL.out⟩
end Go.Proofs.YtcgadmeagbcbnaaDoor
