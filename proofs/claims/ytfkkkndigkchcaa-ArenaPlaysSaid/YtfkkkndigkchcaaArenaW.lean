/- The walk of the law's works. -/
import Derived.Test.YtfkkkndigkchcaaArenaS
namespace Go.Proofs.Ytfkkkndigkchcaa
open Go.RowKit
attribute [local irreducible] Calls

set_option maxRecDepth 100000 in
set_option maxHeartbeats 2000000 in
theorem aworks_any (w : World) : Calls Try.prog 46 #[] w fun e w' => e = .returned (.bool true) ∧ Below w.heap.size w w' := by
  go_enter Try.func46, Try.ntmps46
  go_wp2_with fail
  refine (tr_new w).mono ?_
  rintro e w0 ⟨rfl, hT0⟩
  obtain ⟨T, hT⟩ : ∃ T, w.heap.size = T := ⟨_, rfl⟩
  have HT := Lib.hid (hT0 w (Below.refl _ _)).1
  rw [hT] at HT ⊢
  clear hT0 hT
  go_wp2_with fail
  refine (as_start (col := fun _ => 1) (c := 1) w 2 (by decide) (by decide) w0 HT.out (fun _ _ => rfl)).mono ?_
  rintro e w1 ⟨A, Bb, Ba, q, rfl, hN, _⟩
  have HD := Lib.hid (show AS w w1 _ 1 A Bb Ba T 0 2 0 q ⟨[0, 1], [0, 0], [false, false]⟩ from hN.1)
  clear hN HT
  go_wp2_with fail
  refine (mk1 HD.out (by decide) 0 [1] rfl).mono ?_
  rintro e w2 ⟨rfl, hN⟩
  have HD := Lib.hid (show AS w w2 _ 1 A Bb Ba T 0 2 1 q ⟨[1], [1, 0], [true, false]⟩ from hN.1)
  clear hN
  go_wp2_with fail
  refine (mk1 HD.out (by decide) 1 [] rfl).mono ?_
  rintro e w3 ⟨rfl, hN⟩
  have HD := Lib.hid (show AS w w3 _ 1 A Bb Ba T 0 2 2 q ⟨[], [1, 1], [true, true]⟩ from hN.1)
  clear hN
  go_wp2_with fail
  refine (as_full HD.out rfl).mono ?_
  rintro e w4 ⟨rfl, hN⟩
  have HD := Lib.hid (show AS w w4 _ 1 A Bb Ba T 0 2 2 q ⟨[], [1, 1], [true, true]⟩ from HD.out.below hN 0)
  clear hN
  go_wp2_with fail
  refine (as_len HD.out ).mono ?_
  rintro e w5 ⟨rfl, hN⟩
  have HD := Lib.hid (show AS w w5 _ 1 A Bb Ba T 0 2 2 q ⟨[], [1, 1], [true, true]⟩ from HD.out.below hN 0)
  clear hN
  go_wp2_with fail
  refine (as_free HD.out (by decide) 256 0 (by kernel_rfl)).mono ?_
  rintro e w6 ⟨rfl, hN⟩
  have HD := Lib.hid (show AS w w6 _ 1 A Bb Ba T 0 2 3 q ⟨[0], [1, 1], [false, true]⟩ from hN.1)
  clear hN
  go_wp2_with fail
  refine (as_valid HD.out (by decide) 256).mono ?_
  rintro e w7 ⟨rfl, hN⟩
  have HD := Lib.hid (show AS w w7 _ 1 A Bb Ba T 0 2 3 q ⟨[0], [1, 1], [false, true]⟩ from HD.out.below hN 0)
  clear hN
  go_wp2_with fail
  refine (mk1 HD.out (by decide) 0 [] rfl).mono ?_
  rintro e w8 ⟨rfl, hN⟩
  have HD := Lib.hid (show AS w w8 _ 1 A Bb Ba T 0 2 4 q ⟨[], [2, 1], [true, true]⟩ from hN.1)
  clear hN
  go_wp2_with fail
  refine (as_slot HD.out (by decide) 512).mono ?_
  rintro e w9 ⟨rfl, hN⟩
  have HD := Lib.hid (show AS w w9 _ 1 A Bb Ba T 0 2 4 q ⟨[], [2, 1], [true, true]⟩ from HD.out.below hN 0)
  clear hN
  go_wp2_with fail
  refine (as_at HD.out (by decide) 0).mono ?_
  rintro e w10 ⟨rfl, hN⟩
  have HD := Lib.hid (show AS w w10 _ 1 A Bb Ba T 0 2 4 q ⟨[], [2, 1], [true, true]⟩ from HD.out.below hN 0)
  clear hN
  go_wp2_with fail
  refine (as_mark HD.out).mono ?_
  rintro e w11 ⟨q2, m, rfl, hM, hN, _, rfl⟩
  have HM := Lib.hid hM
  clear hM
  have HD := Lib.hid (show AS w w10 _ 1 A Bb Ba T 0 2 4 q2 ⟨[], [2, 1], [true, true]⟩ from hN)
  clear hN
  go_wp2_with fail
  refine (as_free HD.out (by decide) 257 1 (by kernel_rfl)).mono ?_
  rintro e w11 ⟨rfl, hN⟩
  have HD := Lib.hid (show AS w w11 _ 1 A Bb Ba T 0 2 5 q2 ⟨[1], [2, 1], [true, false]⟩ from hN.1)
  clear hN
  go_wp2_with fail
  refine (mk1 HD.out (by decide) 1 [] rfl).mono ?_
  rintro e w12 ⟨rfl, hN⟩
  have HD := Lib.hid (show AS w w12 _ 1 A Bb Ba T 0 2 6 q2 ⟨[], [2, 2], [true, true]⟩ from hN.1)
  clear hN
  go_wp2_with fail
  refine (as_back HD.out (by decide) (HM.out.mono (n := 6) (by decide))).mono ?_
  rintro e w13 ⟨rfl, hN⟩
  have HD := Lib.hid (show AS w w13 _ 1 A Bb Ba T 0 2 6 q2 ⟨[], [2, 1], [true, true]⟩ from hN.1)
  clear hN
  go_wp2_with fail
  refine (as_valid HD.out (by decide) 257).mono ?_
  rintro e w14 ⟨rfl, hN⟩
  have HD := Lib.hid (show AS w w14 _ 1 A Bb Ba T 0 2 6 q2 ⟨[], [2, 1], [true, true]⟩ from HD.out.below hN 0)
  clear hN
  go_wp2_with fail
  refine (as_valid HD.out (by decide) 513).mono ?_
  rintro e w15 ⟨rfl, hN⟩
  have HD := Lib.hid (show AS w w15 _ 1 A Bb Ba T 0 2 6 q2 ⟨[], [2, 1], [true, true]⟩ from HD.out.below hN 0)
  clear hN
  go_wp2_with fail
  refine (as_full HD.out rfl).mono ?_
  rintro e w16 ⟨rfl, hN⟩
  have HD := Lib.hid (show AS w w16 _ 1 A Bb Ba T 0 2 6 q2 ⟨[], [2, 1], [true, true]⟩ from HD.out.below hN 0)
  clear hN
  have HB := Lib.hid HD.out.bel
  clear HD HM
  go_wp2
  go_ret
  exact ⟨rfl, HB.out⟩
end Go.Proofs.Ytfkkkndigkchcaa
