/- The walk of ArenaBack. No condition. -/
import Derived.Test.YtfkkkndigkchcaaArenaBackS
namespace Go.Proofs.Ytfkkkndigkchcaa
open Go.ChangeShapes Go.WideShapes Go.ChangeAt Go.RowKit
attribute [local irreducible] Calls

set_option maxRecDepth 100000 in
set_option maxHeartbeats 4000000 in
theorem arenaBack_walk (a : Option Addr) (n c : Nat) (F : Nat → Int) (a2 : Option Addr) (n2 c2 : Nat) (F2 : Nat → Int) (z : Int) (w : World) (hR : Nums w w.heap.size .u8 (.slice a n c) n F) (hR2 : Nums w w.heap.size .u8 (.slice a2 n2 c2) n2 F2) (hz0 : 0 ≤ z) (hz1 : z ≤ 255) (hl : (n : Int) ≤ 9223372036854775807) (hl2 : (n2 : Int) ≤ 9223372036854775807) :
    Calls Try.prog 11 #[.slice a n c, .slice a2 n2 c2, .int .u8 z] w fun e w' => e = .returned (.bool true) ∧ Below w.heap.size w w' := by
  obtain ⟨m, hm⟩ : ∃ m : Nat, z % 20 = m := ⟨(z % 20).toNat, by omega⟩
  have hm20 : m < 20 := by omega
  have HR := Lib.hid (And.intro hR hl)
  have HR2 := Lib.hid (And.intro hR2 hl2)
  clear hR hR2 hl hl2
  go_enter Try.func11, Try.ntmps11
  go_wp2_with fail
  refine (aworks_any w).mono ?_
  rintro e wa ⟨rfl, hba⟩
  go_wp2_with fail
  refine (tr_new wa).mono ?_
  rintro e wb ⟨rfl, hT0⟩
  obtain ⟨T, hT⟩ : ∃ T, wa.heap.size = T := ⟨_, rfl⟩
  have HT := Lib.hid (hT0 w hba).1
  rw [hT] at HT ⊢
  clear hT0 hT hba
  have hs := Lib.hid (as_start (col := fun _ => 1) (c := 1) w (1 + m) (by omega) (by omega) wb HT.out (fun _ _ => rfl))
  rw [show ((1 + m : Nat) : Int) = 1 + (m : Int) by omega] at hs
  go_wp2_with (go_at_call 44; refine hs.out.mono ?_; rintro e w1 ⟨A, Bb, Ba, q, rfl, hN, _⟩)
  refine (done_any a n c F hN.1 (by omega) HR.out.1 HR.out.2).mono ?_
  rintro e w2 ⟨v2, rfl, hD⟩
  obtain ⟨cr, h2, _, _⟩ := hD.split
  obtain ⟨M, hM⟩ : ∃ M, (runD F (min n 60) (AM.new (1 + m), [])).1 = M := ⟨_, rfl⟩
  rw [hM] at h2
  have H2 := Lib.hid h2
  clear h2 hD hM hN hs HT
  go_wp2_with fail
  refine (as_mark H2.out).mono ?_
  rintro e w3 ⟨q3, mk, rfl, hmk, h3, _, rfl⟩
  have HM := Lib.hid (hmk.mono (show _ ≤ 200 by omega))
  have H3 := Lib.hid h3
  clear hmk h3 H2
  go_wp2_with fail
  refine (all_any H3.out (by omega)).mono ?_
  rintro e w4 ⟨v4, rfl, hr4, hb4⟩
  have H4 := Lib.hid (And.intro (H3.out.below hb4 3) (RowC.fresh (col := cr) 3 (b0 := 0) hr4 (Nat.zero_le _)))
  clear hr4 hb4 H3
  go_wp2_with fail
  refine (done_any a2 n2 c2 F2 H4.out.1 (by omega) HR2.out.1 HR2.out.2).mono ?_
  rintro e w5 ⟨v5, rfl, hD⟩
  obtain ⟨cr5, h5, hr5, hk5⟩ := hD.split
  have H5 := Lib.hid (And.intro h5 (And.intro hr5 (hk5 3 _ _ _ _ (by decide) H4.out.2)))
  clear h5 hr5 hk5 hD H4
  go_wp2_with fail
  refine (as_back (H5.out.1.mono (show _ ≤ 200 by omega)) (by omega) HM.out).mono ?_
  rintro e w6 ⟨rfl, hB⟩
  have H6 := Lib.hid (And.intro hB.1 (And.intro (H5.out.2.1.step (a := 1) hB.2 (fun _ h _ => h) (by decide)) (H5.out.2.2.step (a := 1) hB.2 (fun _ h _ => h) (by decide))))
  clear hB H5
  go_wp2_with fail
  refine (all_any H6.out.1 (by omega)).mono ?_
  rintro e w7 ⟨v7, rfl, hr7, hb7⟩
  have H7 := Lib.hid (And.intro (H6.out.1.below hb7 4) (And.intro (H6.out.2.1.made 4 hb7) (And.intro (H6.out.2.2.made 4 hb7) hr7)))
  clear hr7 hb7 H6
  go_wp2_with fail
  refine (ints_any w7.heap.size v7 v4 (allL M (1 + m)) (allL M (1 + m)) w7 (IRow.ints H7.out.2.2.2 (Nat.le_refl _)) (IRow.ints H7.out.2.2.1.1 (Nat.le_refl _)) (by unfold allL; rw [List.length_append, atL_len]; show 20 + 1 ≤ 1000000; omega)).mono ?_
  rintro e w8 ⟨he, hb8⟩
  rw [alk_same] at he
  subst he
  have H8 := Lib.hid (And.intro (H7.out.1.below hb8 4) (H7.out.2.1.made 4 hb8))
  clear hb8 H7
  go_wp2_with fail
  refine (done_any a2 n2 c2 F2 H8.out.1 (by omega) HR2.out.1 HR2.out.2).mono ?_
  rintro e w9 ⟨v9, rfl, hD⟩
  obtain ⟨cr9, h9, hr9, hk9⟩ := hD.split
  have HL := runD_len F2 (min n2 60) (M, [])
  obtain ⟨L, hL⟩ : ∃ L, (runD F2 (min n2 60) (M, [])).2 = L := ⟨_, rfl⟩
  rw [hL] at HL
  have H9 := Lib.hid (And.intro h9.bel (And.intro hr9.1 (hk9 2 _ _ _ _ (by decide) H8.out.2).1))
  rw [hL] at H9
  have HLL : L.length ≤ 1000000 := by have h0 : (M, ([] : List Int)).2.length = 0 := rfl; omega
  clear h9 hr9 hk9 hD H8 hL HL
  go_wp2_with fail
  refine (ints_any w9.heap.size v5 v9 L L w9 (IRow.ints H9.out.2.2 (Nat.le_refl _)) (IRow.ints H9.out.2.1 (Nat.le_refl _)) HLL).mono ?_
  rintro e w10 ⟨he, hb10⟩
  rw [alk_same] at he
  subst he
  go_wp2_with fail
  go_ret
  exact ⟨rfl, fb_call H9.out.1 hb10⟩
end Go.Proofs.Ytfkkkndigkchcaa
