/- The walk of ArenaKnown. No condition. -/
import Derived.Test.YtfkkkndigkchcaaArenaKnS
import Derived.Test.YtfkkkndigkchcaaTrailV
namespace Go.Proofs.Ytfkkkndigkchcaa
open Go.ChangeShapes Go.WideShapes Go.ChangeAt Go.RowKit
attribute [local irreducible] Calls

set_option maxRecDepth 100000 in
set_option maxHeartbeats 4000000 in
theorem arenaKnown_walk (w : World) : Calls Try.prog 13 #[] w fun e w' => e = .returned (.bool true) ∧ Below w.heap.size w w' := by
  go_enter Try.func13, Try.ntmps13
  go_wp2_with fail
  refine (tr_new w).mono ?_
  rintro e w0 ⟨rfl, hT0⟩
  obtain ⟨T, hT⟩ : ∃ T, w.heap.size = T := ⟨_, rfl⟩
  have HT := Lib.hid (hT0 w (Below.refl _ _)).1
  rw [hT] at HT ⊢
  clear hT0 hT
  go_wp2_with fail
  refine (tw_new1 HT.out).mono ?_
  rintro e w1 ⟨A, B, C, rfl, O', h1⟩
  have HA := Lib.hid h1
  clear h1 HT
  go_wp2_with fail
  refine (tw_new2 HA.out).mono ?_
  rintro e w2 ⟨A2, B2, C2, q, rfl, hN⟩
  have HD := Lib.hid (show TW w w2 T A B C A2 B2 C2 0 q (KM 0) (AM.new 1) from km_zero ▸ hN)
  clear hN HA
  go_wp2
  go_loopw [5] (fun x wr => ∃ i : Nat, i ≤ 256 ∧ x = .int .i64 i ∧ Hid (TW w wr T A B C A2 B2 C2 i q (KM i) (AM.new 1))) (fun x _ => 256 - (intOf x).toNat)
  case atStart => exact ⟨0, by omega, rfl, HD⟩
  case round =>
    obtain ⟨i, hi, rfl, hst⟩ := hrel
    by_cases hlt : i < 256
    · have hc := Lib.hid (tk_make hst.out hlt)
      clear hst
      go_wp2_with (go_at_call 62; refine hc.out.mono ?_; rintro e w3 ⟨rfl, hN⟩)
      go_roundw
      case rel => exact ⟨i + 1, by omega, by go_num, Lib.hid hN⟩
      case measure => simp [intOf]; omega
    · obtain rfl : i = 256 := by omega
      have HD := Lib.hid hst.out
      clear hst
      obtain ⟨wo, rfl⟩ : ∃ wo : World, wo = wr := ⟨_, rfl⟩
      have HK := Lib.hid ka_facts
      go_wp2_with fail
      refine (tw1_full HD.out HK.out.1).mono ?_
      rintro e w3 ⟨rfl, hN⟩
      have HD := Lib.hid (HD.out.below hN)
      clear hN
      go_wp2_with fail
      refine (mk1_of (tw2_make HD.out (by decide) 0 [] HK.out.2.2.2.2.2.2.2.2.2.1)).mono ?_
      rintro e w4 ⟨rfl, hN⟩
      have HD := Lib.hid (show TW w w4 T A B C A2 B2 C2 257 q (KM 256) KB from hN)
      clear hN
      go_wp2_with fail
      refine (tw1_free HD.out (by decide) 265 9 HK.out.2.1).mono ?_
      rintro e w5 ⟨rfl, hN⟩
      have HD := Lib.hid hN
      clear hN
      go_wp2_with fail
      refine (tw1_free HD.out (by decide) 263 7 HK.out.2.2.1).mono ?_
      rintro e w6 ⟨rfl, hN⟩
      have HD := Lib.hid hN
      clear hN
      go_wp2_with fail
      refine (mk1_of (tw1_make HD.out (by decide) 7 [9] HK.out.2.2.2.1)).mono ?_
      rintro e w7 ⟨rfl, hN⟩
      rw [HK.out.2.2.2.2.2.1]
      have HD := Lib.hid hN
      clear hN
      go_wp2_with fail
      refine (mk1_of (tw1_make HD.out (by decide) 9 [] HK.out.2.2.2.2.1)).mono ?_
      rintro e w8 ⟨rfl, hN⟩
      rw [HK.out.2.2.2.2.2.2.1]
      have HD := Lib.hid (show TW w w8 T A B C A2 B2 C2 261 q KA KB from hN)
      clear hN
      go_wp2_with fail
      refine (tw_mark HD.out).mono ?_
      rintro e w9 ⟨q2, mk, rfl, hM, hN, rfl⟩
      have HM := Lib.hid hM
      have HD := Lib.hid hN
      clear hN hM
      go_wp2_with fail
      refine (tw1_free HD.out (by decide) 456 200 HK.out.2.2.2.2.2.2.2.1).mono ?_
      rintro e w9 ⟨rfl, hN⟩
      have HD := Lib.hid hN
      clear hN
      go_wp2_with fail
      refine (tw2_free HD.out (by decide) 256 0 HK.out.2.2.2.2.2.2.2.2.1).mono ?_
      rintro e w10 ⟨rfl, hN⟩
      have HD := Lib.hid hN
      clear hN
      go_wp2_with fail
      refine (tw_back HD.out (by decide) (HM.out.mono (n := 263) (by decide))).mono ?_
      rintro e w11 ⟨rfl, hN⟩
      have HD := Lib.hid hN
      clear hN HM
      go_wp2_with fail
      refine (make_nil w11).mono ?_
      rintro e w12 ⟨rfl, rfl⟩
      have HE := Lib.hid ka_ends
      have c1 := Lib.hid fun u => aworks_any (lat w11 u)
      have c2 := Lib.hid (tl_valid HD.out (by decide) 456 200 true HK.out.2.2.2.2.2.2.2.1 (by decide))
      have c3 := Lib.hid (tl2_valid HD.out (by decide) 256 0 true HK.out.2.2.2.2.2.2.2.2.1 (by decide))
      have c4 := Lib.hid (tl_len HD.out HE.out.1)
      have c5 := Lib.hid (tl_at HD.out (by decide) 255 511 HE.out.2.1)
      have c6 := Lib.hid (tl_at HD.out (by decide) 256 0 HE.out.2.2.1)
      have c7 := Lib.hid (tl_at HD.out (by decide) (-1) 0 HE.out.2.2.2.1)
      have c8 := Lib.hid (tl_valid HD.out (by decide) 0 (-1) false HE.out.2.2.2.2.1 (by decide))
      have c9 := Lib.hid (tl_valid HD.out (by decide) (-256) (-1) false HE.out.2.2.2.2.2.1 (by decide))
      have c10 := Lib.hid (tl_valid HD.out (by decide) 9 (-1) false HE.out.2.2.2.2.2.2.1 (by decide))
      have c11 := Lib.hid (tl_valid HD.out (by decide) 1099511627776 (-1) false HE.out.2.2.2.2.2.2.2 (by decide))
      have c12 := Lib.hid (tl_slot HD.out (by decide) 0 (-1) HE.out.2.2.2.2.1)
      have HB := Lib.hid HD.out.bel
      clear HD HE HK
      go_upto_region 21 with fail
      obtain ⟨u0, hu0⟩ := lat_of (Below.refl w11.heap.size w11)
      rw [hu0]
      clear hu0
      go_wp2_with (first | (go_at_call 46; first | (refine (calls_lat (c1.out _)).mono ?_; rintro e w' ⟨rfl, nu, rfl⟩)) | (go_at_call 52; first | (refine (calls_lat (c2.out _)).mono ?_; rintro e w' ⟨rfl, nu, rfl⟩) | (refine (calls_lat (c3.out _)).mono ?_; rintro e w' ⟨rfl, nu, rfl⟩) | (refine (calls_lat (c8.out _)).mono ?_; rintro e w' ⟨rfl, nu, rfl⟩) | (refine (calls_lat (c9.out _)).mono ?_; rintro e w' ⟨rfl, nu, rfl⟩) | (refine (calls_lat (c10.out _)).mono ?_; rintro e w' ⟨rfl, nu, rfl⟩) | (refine (calls_lat (c11.out _)).mono ?_; rintro e w' ⟨rfl, nu, rfl⟩) | (refine (valid_nil _).mono ?_; rintro e w' ⟨rfl, rfl⟩)) | (go_at_call 57; first | (refine (calls_lat (c4.out _)).mono ?_; rintro e w' ⟨rfl, nu, rfl⟩) | (refine (len_nil _).mono ?_; rintro e w' ⟨rfl, rfl⟩)) | (go_at_call 55; first | (refine (calls_lat (c5.out _)).mono ?_; rintro e w' ⟨rfl, nu, rfl⟩) | (refine (calls_lat (c6.out _)).mono ?_; rintro e w' ⟨rfl, nu, rfl⟩) | (refine (calls_lat (c7.out _)).mono ?_; rintro e w' ⟨rfl, nu, rfl⟩) | (refine (at_nil _ _).mono ?_; rintro e w' ⟨rfl, rfl⟩)) | (go_at_call 54; first | (refine (calls_lat (c12.out _)).mono ?_; rintro e w' ⟨rfl, nu, rfl⟩) | (refine (slot_nil _).mono ?_; rintro e w' ⟨rfl, rfl⟩)) | (go_at_call 47; first | (refine (free_nil _ _).mono ?_; rintro e w' ⟨rfl, rfl⟩)) | (go_at_call 44; first | (refine (new_nil _ _).mono ?_; rintro e w' ⟨rfl, rfl⟩) | (refine (new_no _ _ _ (by decide)).mono ?_; rintro e w' ⟨rfl, rfl⟩)))
      go_ret
      exact ⟨rfl, fb_lat HB.out _⟩
end Go.Proofs.Ytfkkkndigkchcaa
