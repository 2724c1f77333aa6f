/- The walk of IndexKnown. No condition but the library's table. -/
import Derived.Test.YtcgadmeagbcbnaaDoorIdxTwo
namespace Go.Proofs.YtcgadmeagbcbnaaDoor
open Go.RowKit
attribute [local irreducible] Calls

set_option maxRecDepth 100000 in
set_option maxHeartbeats 8000000 in
theorem indexKnown_walk (w : World) (hT : TabAt w) (h0 : 0 < w.heap.size) : Calls Tryd.prog 7 #[] w fun e w' => e = .returned (.bool true) ∧ Below w.heap.size w w' := by
  have HTT := Lib.hid (And.intro hT h0)
  clear hT h0
  go_enter Tryd.func7, Tryd.ntmps7
  go_wp2_with fail
  refine (tr_new w).mono ?_
  rintro e wa_ ⟨rfl, hT0_⟩
  have HT1 := Lib.hid (hT0_ w (Below.refl _ _))
  obtain ⟨T, hTn_⟩ : ∃ T, w.heap.size = T := ⟨_, rfl⟩
  have HTN := Lib.hid hTn_
  rw [hTn_] at HT1 ⊢
  clear hT0_ hTn_
  go_wp2_with fail
  refine (three_any wa_).mono ?_
  rintro e wb_ ⟨u_, vs_, rfl, hp_⟩
  have HP_ := Lib.hid hp_
  clear hp_
  go_wp2_with fail
  refine (inew_any (w0 := w) (col := fun j => if j < w.heap.size then 0 else 1) (c := 1) (HT1.out.1.below HP_.out.bel) (fun j hj => if_neg (Nat.not_lt.2 (HT1.out.1.base hj).1)) (by simp) (by simp) HP_.out.cards abs3_len abs3_five abs3_wf (fun cs => cs.length ≤ 1000) (by simp) (fun cs i v _ _ h => by unfold setC; split <;> simpa using h)).mono ?_
  rintro e wc_ ⟨b, q, rfl, hbT_, hba_, _, hbF_, hN_⟩
  have HBT := Lib.hid hbT_
  have HA := Lib.hid hba_
  have HFF := Lib.hid hbF_
  obtain ⟨M0_, hM0_⟩ : ∃ m, M0 = m := ⟨_, rfl⟩
  have hn0_ : IS w wc_ (recol wb_.heap.size (fun j => if j < w.heap.size then 0 else 1) 1) 1 b 100 q M0 := hN_.1.mono (n := 100) (by simp)
  have hg0_ := good_zero b.abs
  rw [hM0_] at hn0_ hg0_
  have HS := Lib.hid hn0_
  have HG := Lib.hid hg0_
  have HM0_ := Lib.hid hM0_
  clear hbT_ hba_ hN_ hM0_ HT1 HP_ hn0_ hg0_
  have HX := Lib.hid (show XB w wc_ b 100 q M0_ [] from ⟨HG.out, _, HS.out, fun x hx => by cases hx⟩)
  clear HS HG
  go_wp2_with fail
  refine (xb_put HX.out (by omega) (-1) 1).mono ?_
  rintro e w1_ ⟨rfl, hb_⟩
  obtain ⟨M1_, hM1_⟩ : ∃ m, putI b.abs (-1) 1 M0_ = m := ⟨_, rfl⟩
  rw [hM1_] at hb_
  have HX2_ := Lib.hid (hb_.mono (n := 160) (by omega))
  clear HX
  have HX := HX2_
  clear HX2_
  have HM1_ := Lib.hid hM1_
  clear hb_ hM1_
  go_wp2_with fail
  refine (xb_put HX.out (by omega) 256 1).mono ?_
  rintro e w2_ ⟨rfl, hb_⟩
  obtain ⟨M2_, hM2_⟩ : ∃ m, putI b.abs 256 1 M1_ = m := ⟨_, rfl⟩
  rw [hM2_] at hb_
  have HX2_ := Lib.hid (hb_.mono (n := 220) (by omega))
  clear HX
  have HX := HX2_
  clear HX2_
  have HM2_ := Lib.hid hM2_
  clear hb_ hM2_
  go_wp2_with fail
  refine (xb_put HX.out (by omega) 0 (-1)).mono ?_
  rintro e w3_ ⟨rfl, hb_⟩
  obtain ⟨M3_, hM3_⟩ : ∃ m, putI b.abs 0 (-1) M2_ = m := ⟨_, rfl⟩
  rw [hM3_] at hb_
  have HX2_ := Lib.hid (hb_.mono (n := 280) (by omega))
  clear HX
  have HX := HX2_
  clear HX2_
  have HM3_ := Lib.hid hM3_
  clear hb_ hM3_
  go_wp2_with fail
  refine (xb_put HX.out (by omega) 0 40).mono ?_
  rintro e w4_ ⟨rfl, hb_⟩
  obtain ⟨M4_, hM4_⟩ : ∃ m, putI b.abs 0 40 M3_ = m := ⟨_, rfl⟩
  rw [hM4_] at hb_
  have HX2_ := Lib.hid (hb_.mono (n := 340) (by omega))
  clear HX
  have HX := HX2_
  clear HX2_
  have HM4_ := Lib.hid hM4_
  clear hb_ hM4_
  go_wp2_with fail
  refine (xb_touch HX.out (by omega) (-1)).mono ?_
  rintro e w5_ ⟨rfl, hb_⟩
  obtain ⟨M5_, hM5_⟩ : ∃ m, touchI (-1) M4_ = m := ⟨_, rfl⟩
  rw [hM5_] at hb_
  have HX2_ := Lib.hid (hb_.mono (n := 400) (by omega))
  clear HX
  have HX := HX2_
  clear HX2_
  have HM5_ := Lib.hid hM5_
  clear hb_ hM5_
  go_wp2_with fail
  refine (xb_touch HX.out (by omega) 256).mono ?_
  rintro e w6_ ⟨rfl, hb_⟩
  obtain ⟨M6_, hM6_⟩ : ∃ m, touchI 256 M5_ = m := ⟨_, rfl⟩
  rw [hM6_] at hb_
  have HX2_ := Lib.hid (hb_.mono (n := 460) (by omega))
  clear HX
  have HX := HX2_
  clear HX2_
  have HM6_ := Lib.hid hM6_
  clear hb_ hM6_
  go_wp2_with fail
  refine (xb_having HX.out 3 2 (wf_lit (by decide))).mono ?_
  rintro e w7_ ⟨rfl, hb_⟩
  have HF := Lib.hid (show (lst (havingI 3 2 M6_)).length = 0 from by rw [← HM6_.out, ← HM5_.out, ← HM4_.out, ← HM3_.out, ← HM2_.out, ← HM1_.out, ← HM0_.out, HA.out]; kernel_rfl)
  have HWF := Lib.hid (show wfB (havingI 3 2 M6_) from wf_having HX.out.good 3 2)
  have HX2_ := Lib.hid (HX.out.below hb_)
  clear HX
  have HX := HX2_
  clear HX2_
  clear hb_
  generalize havingI 3 2 M6_ = S1_ at HF HWF ⊢
  have hc_ := blen_any HWF.out w7_
  rw [HF.out] at hc_
  go_wp2_with fail
  refine hc_.mono ?_
  rintro e w8_ ⟨rfl, hb_⟩
  have HX2_ := Lib.hid (HX.out.below hb_)
  clear HX
  have HX := HX2_
  clear HX2_
  clear hb_ hc_ HF HWF
  go_wp2_with fail
  refine (xb_touched HX.out).mono ?_
  rintro e w9_ ⟨rfl, hb_⟩
  have HF := Lib.hid (show (lst (M6_.Z 0)).length = 0 from by rw [← HM6_.out, ← HM5_.out, ← HM4_.out, ← HM3_.out, ← HM2_.out, ← HM1_.out, ← HM0_.out, HA.out]; kernel_rfl)
  have HWF := Lib.hid (show wfB (M6_.Z 0) from HX.out.good.wf 0 (by omega))
  have HX2_ := Lib.hid (HX.out.below hb_)
  clear HX
  have HX := HX2_
  clear HX2_
  clear hb_
  generalize M6_.Z 0 = S2_ at HF HWF ⊢
  have hc_ := blen_any HWF.out w9_
  rw [HF.out] at hc_
  go_wp2_with fail
  refine hc_.mono ?_
  rintro e w10_ ⟨rfl, hb_⟩
  have HX2_ := Lib.hid (HX.out.below hb_)
  clear HX
  have HX := HX2_
  clear HX2_
  clear hb_ hc_ HF HWF
  go_wp2_with fail
  refine (xb_put HX.out (by omega) 0 39).mono ?_
  rintro e w11_ ⟨rfl, hb_⟩
  obtain ⟨M7_, hM7_⟩ : ∃ m, putI b.abs 0 39 M6_ = m := ⟨_, rfl⟩
  rw [hM7_] at hb_
  have HX2_ := Lib.hid (hb_.mono (n := 520) (by omega))
  clear HX
  have HX := HX2_
  clear HX2_
  have HM7_ := Lib.hid hM7_
  clear hb_ hM7_
  go_wp2_with fail
  refine (xb_put HX.out (by omega) 255 2).mono ?_
  rintro e w12_ ⟨rfl, hb_⟩
  obtain ⟨M8_, hM8_⟩ : ∃ m, putI b.abs 255 2 M7_ = m := ⟨_, rfl⟩
  rw [hM8_] at hb_
  have HX2_ := Lib.hid (hb_.mono (n := 580) (by omega))
  clear HX
  have HX := HX2_
  clear HX2_
  have HM8_ := Lib.hid hM8_
  clear hb_ hM8_
  go_wp2_with fail
  refine (xb_touch HX.out (by omega) 255).mono ?_
  rintro e w13_ ⟨rfl, hb_⟩
  obtain ⟨M9_, hM9_⟩ : ∃ m, touchI 255 M8_ = m := ⟨_, rfl⟩
  rw [hM9_] at hb_
  have HX2_ := Lib.hid (hb_.mono (n := 640) (by omega))
  clear HX
  have HX := HX2_
  clear HX2_
  have HM9_ := Lib.hid hM9_
  clear hb_ hM9_
  go_wp2_with fail
  refine (xb_touch HX.out (by omega) 7).mono ?_
  rintro e w14_ ⟨rfl, hb_⟩
  obtain ⟨M10_, hM10_⟩ : ∃ m, touchI 7 M9_ = m := ⟨_, rfl⟩
  rw [hM10_] at hb_
  have HX2_ := Lib.hid (hb_.mono (n := 700) (by omega))
  clear HX
  have HX := HX2_
  clear HX2_
  have HM10_ := Lib.hid hM10_
  clear hb_ hM10_
  have hc_ := xb_touched HX.out
  rw [show M10_.Z 0 = [128, 0, 0, 9223372036854775808] from by rw [← HM10_.out, ← HM9_.out, ← HM8_.out, ← HM7_.out, ← HM6_.out, ← HM5_.out, ← HM4_.out, ← HM3_.out, ← HM2_.out, ← HM1_.out, ← HM0_.out, HA.out]; kernel_rfl, show svL [128, 0, 0, 9223372036854775808] = .agg #[.int .u64 128, .int .u64 0, .int .u64 0, .int .u64 9223372036854775808] from rfl] at hc_
  go_wp2_with fail
  refine (hc_).mono ?_
  rintro e w15_ ⟨rfl, hb_⟩
  have HX2_ := Lib.hid (HX.out.below hb_)
  clear HX
  have HX := HX2_
  clear HX2_
  clear hb_ hc_
  obtain ⟨B, hB⟩ : ∃ B, w15_.heap.size = B := ⟨_, rfl⟩
  have HX2_ : Hid (XB w (w15_.alloc (.cells #[.int .u64 128, .int .u64 0, .int .u64 0, .int .u64 9223372036854775808] 48)) b 700 q M10_ [(B, 48, uc [128, 0, 0, 9223372036854775808])]) := by rw [← hB]; exact Lib.hid (HX.out.box 48 (uc [128, 0, 0, 9223372036854775808]))
  clear HX
  have HX := HX2_
  clear HX2_
  go_upto_region 18 with fail
  try rw [hB]
  generalize World.alloc _ _ = wx_ at HX ⊢
  clear hB
  go_wp2_with fail
  refine (xb_clear HX.out (by omega) 255).mono ?_
  rintro e w16_ ⟨rfl, hb_⟩
  obtain ⟨M11_, hM11_⟩ : ∃ m, clearI 255 M10_ = m := ⟨_, rfl⟩
  rw [hM11_] at hb_
  have HX2_ := Lib.hid (hb_.mono (n := 760) (by omega))
  clear HX
  have HX := HX2_
  clear HX2_
  have HM11_ := Lib.hid hM11_
  clear hb_ hM11_
  go_wp2_with fail
  refine (xb_take HX.out (by omega) 7).mono ?_
  rintro e w17_ ⟨rfl, hb_⟩
  obtain ⟨M12_, hM12_⟩ : ∃ m, takeI b.abs 7 M11_ = m := ⟨_, rfl⟩
  rw [hM12_] at hb_
  have HX2_ := Lib.hid (hb_.mono (n := 870) (by omega))
  clear HX
  have HX := HX2_
  clear HX2_
  have HM12_ := Lib.hid hM12_
  clear hb_ hM12_
  go_wp2_with fail
  refine (xb_touched HX.out).mono ?_
  rintro e w18_ ⟨rfl, hb_⟩
  have HF := Lib.hid (show (lst (M12_.Z 0)).length = 0 from by rw [← HM12_.out, ← HM11_.out, ← HM10_.out, ← HM9_.out, ← HM8_.out, ← HM7_.out, ← HM6_.out, ← HM5_.out, ← HM4_.out, ← HM3_.out, ← HM2_.out, ← HM1_.out, ← HM0_.out, HA.out]; kernel_rfl)
  have HWF := Lib.hid (show wfB (M12_.Z 0) from HX.out.good.wf 0 (by omega))
  have HX2_ := Lib.hid (HX.out.below hb_)
  clear HX
  have HX := HX2_
  clear HX2_
  clear hb_
  generalize M12_.Z 0 = S3_ at HF HWF ⊢
  have hc_ := blen_any HWF.out w18_
  rw [HF.out] at hc_
  go_wp2_with fail
  refine hc_.mono ?_
  rintro e w19_ ⟨rfl, hb_⟩
  have HX2_ := Lib.hid (HX.out.below hb_)
  clear HX
  have HX := HX2_
  clear HX2_
  clear hb_ hc_ HF HWF
  go_wp2_with fail
  refine (put_nil _ 1 1).mono ?_
  rintro e w20_ ⟨rfl, rfl⟩
  go_wp2_with fail
  refine (take_nil _ 1).mono ?_
  rintro e w21_ ⟨rfl, rfl⟩
  go_wp2_with fail
  refine (touch_nil _ 1).mono ?_
  rintro e w22_ ⟨rfl, hb_⟩
  have HX2_ := Lib.hid (HX.out.below hb_)
  clear HX
  have HX := HX2_
  clear HX2_
  clear hb_
  go_wp2_with fail
  refine (clear_nil _ 1).mono ?_
  rintro e w23_ ⟨rfl, hb_⟩
  have HX2_ := Lib.hid (HX.out.below hb_)
  clear HX
  have HX := HX2_
  clear HX2_
  clear hb_
  have hc_ := two_made HX.out (fun cs h => by rw [HFF.out] at h; exact h) (by omega)
  rw [HBT.out] at hc_
  go_wp2_with fail
  refine (hc_).mono ?_
  rintro e w24_ ⟨f, rfl, hfa_, h2_⟩
  have HFA := Lib.hid hfa_
  clear hc_ HX hfa_
  have HX := Lib.hid h2_
  clear h2_
  go_wp2_with fail
  refine (two_put2 HX.out (by omega) 1 1).mono ?_
  rintro e w25_ ⟨rfl, hb_⟩
  obtain ⟨N1, hN1⟩ : ∃ m, putI f.abs 1 1 M0 = m := ⟨_, rfl⟩
  rw [hN1] at hb_
  have HX2_ := Lib.hid (hb_)
  clear HX
  have HX := HX2_
  clear HX2_
  have HN1 := Lib.hid hN1
  clear hb_ hN1
  go_wp2_with fail
  refine (works_any _ (HTT.out.1.below HTT.out.2 HX.out.bel) (Nat.lt_of_lt_of_le HTT.out.2 HX.out.bel.size)).mono ?_
  rintro e w26_ ⟨rfl, hb_⟩
  have HX2_ := Lib.hid (HX.out.below hb_)
  clear HX
  have HX := HX2_
  clear HX2_
  clear hb_
  have hc_ := two_card1 HX.out 0
  rw [show cardI 0 M12_ = 39 from by rw [← HM12_.out, ← HM11_.out, ← HM10_.out, ← HM9_.out, ← HM8_.out, ← HM7_.out, ← HM6_.out, ← HM5_.out, ← HM4_.out, ← HM3_.out, ← HM2_.out, ← HM1_.out, ← HM0_.out, HA.out]; kernel_rfl] at hc_
  go_wp2_with fail
  refine (hc_).mono ?_
  rintro e w27_ ⟨rfl, hb_⟩
  have HX2_ := Lib.hid (HX.out.below hb_)
  clear HX
  have HX := HX2_
  clear HX2_
  clear hb_ hc_
  have hc_ := two_card1 HX.out (-1)
  rw [show cardI (-1) M12_ = -1 from by rw [← HM12_.out, ← HM11_.out, ← HM10_.out, ← HM9_.out, ← HM8_.out, ← HM7_.out, ← HM6_.out, ← HM5_.out, ← HM4_.out, ← HM3_.out, ← HM2_.out, ← HM1_.out, ← HM0_.out, HA.out]; kernel_rfl] at hc_
  go_wp2_with fail
  refine (hc_).mono ?_
  rintro e w28_ ⟨rfl, hb_⟩
  have HX2_ := Lib.hid (HX.out.below hb_)
  clear HX
  have HX := HX2_
  clear HX2_
  clear hb_ hc_
  have hc_ := two_card1 HX.out 256
  rw [show cardI 256 M12_ = -1 from by rw [← HM12_.out, ← HM11_.out, ← HM10_.out, ← HM9_.out, ← HM8_.out, ← HM7_.out, ← HM6_.out, ← HM5_.out, ← HM4_.out, ← HM3_.out, ← HM2_.out, ← HM1_.out, ← HM0_.out, HA.out]; kernel_rfl] at hc_
  go_wp2_with fail
  refine (hc_).mono ?_
  rintro e w29_ ⟨rfl, hb_⟩
  have HX2_ := Lib.hid (HX.out.below hb_)
  clear HX
  have HX := HX2_
  clear HX2_
  clear hb_ hc_
  go_wp2_with fail
  refine (two_having1 HX.out 3 2 (wf_lit (by decide))).mono ?_
  rintro e w30_ ⟨rfl, hb_⟩
  have HF := Lib.hid (show lst (havingI 3 2 M12_) = [255] from by rw [← HM12_.out, ← HM11_.out, ← HM10_.out, ← HM9_.out, ← HM8_.out, ← HM7_.out, ← HM6_.out, ← HM5_.out, ← HM4_.out, ← HM3_.out, ← HM2_.out, ← HM1_.out, ← HM0_.out, HA.out]; kernel_rfl)
  have HWF := Lib.hid (show wfB (havingI 3 2 M12_) from wf_having HX.out.2.1 3 2)
  have HX2_ := Lib.hid (HX.out.below hb_)
  clear HX
  have HX := HX2_
  clear HX2_
  clear hb_
  generalize havingI 3 2 M12_ = S4_ at HF HWF ⊢
  go_wp2_with fail
  refine (ball_any HWF.out _ (HTT.out.1.below HTT.out.2 HX.out.bel) (Nat.lt_of_lt_of_le HTT.out.2 HX.out.bel.size)).mono ?_
  rintro e w31_ ⟨v_, rfl, hI_, hb_⟩
  rw [HF.out] at hI_
  have HI := Lib.hid hI_
  have HX2_ := Lib.hid (HX.out.below hb_)
  clear HX
  have HX := HX2_
  clear HX2_
  clear hb_ hI_ HF HWF
  go_wp2_with fail
  refine (ints_eq (w31_.heap.size + 1) _ _ (zl [255]) _ ((HI.out.below (fb_alloc (Below.refl _ _) _) (Nat.le_refl _)).mono (Nat.le_succ _)) (ints_lit w31_ (zl [255])) (by decide)).mono ?_
  rintro e w32_ ⟨rfl, hb_⟩
  have HX2_ := Lib.hid (HX.out.below (fb_call (fb_alloc (Below.refl _ _) _) hb_))
  clear HX
  have HX := HX2_
  clear HX2_
  clear hb_ HI
  have g0 : w32_.cell? ⟨B, 0, none⟩ = some (.int .u64 128) := (HX.out.at (.head _)).cell 0
  have g1 : w32_.cell? ⟨B, 1, none⟩ = some (.int .u64 0) := (HX.out.at (.head _)).cell 1
  have g2 : w32_.cell? ⟨B, 2, none⟩ = some (.int .u64 0) := (HX.out.at (.head _)).cell 2
  have g3 : w32_.cell? ⟨B, 3, none⟩ = some (.int .u64 9223372036854775808) := (HX.out.at (.head _)).cell 3
  have hc_ := ball_any (S := [128, 0, 0, 9223372036854775808]) (wf_mk (by omega) (by omega) (by omega) (by omega)) w32_ (HTT.out.1.below HTT.out.2 HX.out.bel) (Nat.lt_of_lt_of_le HTT.out.2 HX.out.bel.size)
  rw [show svL [128, 0, 0, 9223372036854775808] = .agg #[.int .u64 128, .int .u64 0, .int .u64 0, .int .u64 9223372036854775808] from rfl] at hc_
  go_wp2_with fail
  refine (hc_).mono ?_
  rintro e w33_ ⟨v_, rfl, hI_, hb_⟩
  rw [show lst [128, 0, 0, 9223372036854775808] = [7, 255] from by kernel_rfl] at hI_
  have HI := Lib.hid hI_
  have HX2_ := Lib.hid (HX.out.below hb_)
  clear HX
  have HX := HX2_
  clear HX2_
  clear hb_ hI_ hc_ g0 g1 g2 g3
  go_wp2_with fail
  refine (ints_eq (w33_.heap.size + 1) _ _ (zl [7, 255]) _ ((HI.out.below (fb_alloc (Below.refl _ _) _) (Nat.le_refl _)).mono (Nat.le_succ _)) (ints_lit w33_ (zl [7, 255])) (by decide)).mono ?_
  rintro e w34_ ⟨rfl, hb_⟩
  have HX2_ := Lib.hid (HX.out.below (fb_call (fb_alloc (Below.refl _ _) _) hb_))
  clear HX
  have HX := HX2_
  clear HX2_
  clear hb_ HI
  go_wp2_with fail
  refine (two_having1 HX.out 0 0 (wf_lit (by decide))).mono ?_
  rintro e w35_ ⟨rfl, hb_⟩
  have HF := Lib.hid (show (lst (havingI 0 0 M12_)).length = 0 from by rw [← HM12_.out, ← HM11_.out, ← HM10_.out, ← HM9_.out, ← HM8_.out, ← HM7_.out, ← HM6_.out, ← HM5_.out, ← HM4_.out, ← HM3_.out, ← HM2_.out, ← HM1_.out, ← HM0_.out, HA.out]; kernel_rfl)
  have HWF := Lib.hid (show wfB (havingI 0 0 M12_) from wf_having HX.out.2.1 0 0)
  have HX2_ := Lib.hid (HX.out.below hb_)
  clear HX
  have HX := HX2_
  clear HX2_
  clear hb_
  generalize havingI 0 0 M12_ = S5_ at HF HWF ⊢
  have hc_ := blen_any HWF.out w35_
  rw [HF.out] at hc_
  go_wp2_with fail
  refine hc_.mono ?_
  rintro e w36_ ⟨rfl, hb_⟩
  have HX2_ := Lib.hid (HX.out.below hb_)
  clear HX
  have HX := HX2_
  clear HX2_
  clear hb_ hc_ HF HWF
  go_wp2_with fail
  refine (two_having1 HX.out 6 0 (wf_lit (by decide))).mono ?_
  rintro e w37_ ⟨rfl, hb_⟩
  have HF := Lib.hid (show (lst (havingI 6 0 M12_)).length = 0 from by rw [← HM12_.out, ← HM11_.out, ← HM10_.out, ← HM9_.out, ← HM8_.out, ← HM7_.out, ← HM6_.out, ← HM5_.out, ← HM4_.out, ← HM3_.out, ← HM2_.out, ← HM1_.out, ← HM0_.out, HA.out]; kernel_rfl)
  have HWF := Lib.hid (show wfB (havingI 6 0 M12_) from wf_having HX.out.2.1 6 0)
  have HX2_ := Lib.hid (HX.out.below hb_)
  clear HX
  have HX := HX2_
  clear HX2_
  clear hb_
  generalize havingI 6 0 M12_ = S6_ at HF HWF ⊢
  have hc_ := blen_any HWF.out w37_
  rw [HF.out] at hc_
  go_wp2_with fail
  refine hc_.mono ?_
  rintro e w38_ ⟨rfl, hb_⟩
  have HX2_ := Lib.hid (HX.out.below hb_)
  clear HX
  have HX := HX2_
  clear HX2_
  clear hb_ hc_ HF HWF
  go_wp2_with fail
  refine (two_having1 HX.out 3 7 (wf_lit (by decide))).mono ?_
  rintro e w39_ ⟨rfl, hb_⟩
  have HF := Lib.hid (show (lst (havingI 3 7 M12_)).length = 0 from by rw [← HM12_.out, ← HM11_.out, ← HM10_.out, ← HM9_.out, ← HM8_.out, ← HM7_.out, ← HM6_.out, ← HM5_.out, ← HM4_.out, ← HM3_.out, ← HM2_.out, ← HM1_.out, ← HM0_.out, HA.out]; kernel_rfl)
  have HWF := Lib.hid (show wfB (havingI 3 7 M12_) from wf_having HX.out.2.1 3 7)
  have HX2_ := Lib.hid (HX.out.below hb_)
  clear HX
  have HX := HX2_
  clear HX2_
  clear hb_
  generalize havingI 3 7 M12_ = S7_ at HF HWF ⊢
  have hc_ := blen_any HWF.out w39_
  rw [HF.out] at hc_
  go_wp2_with fail
  refine hc_.mono ?_
  rintro e w40_ ⟨rfl, hb_⟩
  have HX2_ := Lib.hid (HX.out.below hb_)
  clear HX
  have HX := HX2_
  clear HX2_
  clear hb_ hc_ HF HWF
  go_wp2_with fail
  refine (two_having1 HX.out 3 (-1) (wf_lit (by decide))).mono ?_
  rintro e w41_ ⟨rfl, hb_⟩
  have HF := Lib.hid (show (lst (havingI 3 (-1) M12_)).length = 0 from by rw [← HM12_.out, ← HM11_.out, ← HM10_.out, ← HM9_.out, ← HM8_.out, ← HM7_.out, ← HM6_.out, ← HM5_.out, ← HM4_.out, ← HM3_.out, ← HM2_.out, ← HM1_.out, ← HM0_.out, HA.out]; kernel_rfl)
  have HWF := Lib.hid (show wfB (havingI 3 (-1) M12_) from wf_having HX.out.2.1 3 (-1))
  have HX2_ := Lib.hid (HX.out.below hb_)
  clear HX
  have HX := HX2_
  clear HX2_
  clear hb_
  generalize havingI 3 (-1) M12_ = S8_ at HF HWF ⊢
  have hc_ := blen_any HWF.out w41_
  rw [HF.out] at hc_
  go_wp2_with fail
  refine hc_.mono ?_
  rintro e w42_ ⟨rfl, hb_⟩
  have HX2_ := Lib.hid (HX.out.below hb_)
  clear HX
  have HX := HX2_
  clear HX2_
  clear hb_ hc_ HF HWF
  go_wp2_with fail
  refine (three_any _).mono ?_
  rintro e w43_ ⟨u_, vs_, rfl, hp_⟩
  have HX2_ := Lib.hid (HX.out.below hp_.bel)
  clear HX
  have HX := HX2_
  clear HX2_
  clear hp_
  go_wp2_with fail
  refine (inew_nil _ u_).mono ?_
  rintro e w44_ ⟨rfl, rfl⟩
  go_wp2_with fail
  refine (icard_nil _ 1).mono ?_
  rintro e w45_ ⟨rfl, rfl⟩
  have hc_ := fun W => having_nil W 3 2
  simp only [show svL [0, 0, 0, 0] = .agg #[.int .u64 0, .int .u64 0, .int .u64 0, .int .u64 0] from rfl] at hc_
  go_wp2_with fail
  refine (hc_ _).mono ?_
  rintro e w46_ ⟨rfl, hb_⟩
  have HX2_ := Lib.hid (HX.out.below hb_)
  clear HX
  have HX := HX2_
  clear HX2_
  clear hb_ hc_
  have hc_ := fun W => touched_nil W
  simp only [show svL [0, 0, 0, 0] = .agg #[.int .u64 0, .int .u64 0, .int .u64 0, .int .u64 0] from rfl] at hc_
  go_wp2_with fail
  refine (hc_ _).mono ?_
  rintro e w47_ ⟨rfl, hb_⟩
  have HX2_ := Lib.hid (HX.out.below hb_)
  clear HX
  have HX := HX2_
  clear HX2_
  clear hb_ hc_
  have hc_ := two_card2 HX.out 1
  rw [show cardI 1 N1 = 1 from by rw [← HN1.out, HFA.out]; kernel_rfl] at hc_
  go_wp2_with fail
  refine (hc_).mono ?_
  rintro e w48_ ⟨rfl, hb_⟩
  have HX2_ := Lib.hid (HX.out.below hb_)
  clear HX
  have HX := HX2_
  clear HX2_
  clear hb_ hc_
  go_wp2_with fail
  refine (two_having2 HX.out 3 2 (wf_lit (by decide))).mono ?_
  rintro e w49_ ⟨rfl, hb_⟩
  have HF := Lib.hid (show (lst (havingI 3 2 N1)).length = 0 from by rw [← HN1.out, HFA.out]; kernel_rfl)
  have HWF := Lib.hid (wf_having HX.out.1 3 2)
  have HX2_ := Lib.hid (HX.out.below hb_)
  clear HX
  have HX := HX2_
  clear HX2_
  clear hb_
  generalize havingI 3 2 N1 = SZ at HF HWF ⊢
  have hc_ := blen_any HWF.out w49_
  rw [HF.out] at hc_
  go_wp2_with fail
  refine hc_.mono ?_
  rintro e w50_ ⟨rfl, hb_⟩
  have HX2_ := Lib.hid (HX.out.below hb_)
  clear HX
  have HX := HX2_
  clear HX2_
  clear hb_ hc_ HF HWF
  have HBEL := Lib.hid HX.out.bel
  go_wp2
  go_ret
  exact ⟨rfl, HBEL.out⟩
end Go.Proofs.YtcgadmeagbcbnaaDoor
