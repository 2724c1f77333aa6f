/- The walk of the closed law of layer 9. No condition. -/
import Derived.Test.YtfkkkndigkchcaaZoneW
namespace Go.Proofs.Ytfkkkndigkchcaa
open Go.RowKit
attribute [local irreducible] Calls

theorem calls_same_bel {P : Program} {f : Nat} {vs : Array Value} {w : World} {x : Ending} (h : Calls P f vs w fun e w' => e = x ∧ w = w') : Calls P f vs w fun e w' => e = x ∧ Below w.heap.size w w' := h.mono fun _ _ h => ⟨h.1, h.2 ▸ Below.refl _ _⟩
set_option maxRecDepth 100000 in
set_option maxHeartbeats 4000000 in
theorem zoneKnown_walk (w : World) : Calls Try.prog 15 #[] w fun e w' => e = .returned (.bool true) ∧ Below w.heap.size w w' := by
  go_enter Try.func15, Try.ntmps15
  go_wp2_with fail
  refine (tr_new w).mono ?_
  rintro e w0 ⟨rfl, hT0⟩
  obtain ⟨T, hT⟩ : ∃ T, w.heap.size = T := ⟨_, rfl⟩
  have HT := Lib.hid (hT0 w (Below.refl _ _)).1
  rw [hT] at HT ⊢
  clear hT0 hT
  go_wp2_with fail
  refine (zl_new (col := fun _ => 1) (c := 1) HT.out (fun _ _ => rfl) 2 4 (by decide) (by decide) (by decide) (by decide)).mono ?_
  rintro e w1 ⟨b, q, rfl, hbT, hN⟩
  have HD := Lib.hid (show ZL w w1 _ 1 b ⟨0, 2, 4⟩ 1 q [[], []] from hN.st)
  clear hN HT hbT
  go_wp2_with fail
  refine (zl_len HD.out 0).mono ?_
  rintro e w2 ⟨rfl, hN⟩
  have HD := Lib.hid (show ZL w w2 _ 1 b ⟨0, 2, 4⟩ 1 q [[], []] from HD.out.below hN 1)
  clear hN
  go_wp2_with fail
  refine (zl_put_end HD.out (by decide) 0 3 (by decide) (by decide) (zno_of (by decide))).mono ?_
  rintro e w3 ⟨rfl, hN⟩
  have HD := Lib.hid (show ZL w w3 _ 1 b ⟨0, 2, 4⟩ 1001 q [[3], []] from hN.st)
  clear hN
  go_wp2_with fail
  refine (zl_put_end HD.out (by decide) 0 1 (by decide) (by decide) (zno_of (by decide))).mono ?_
  rintro e w4 ⟨rfl, hN⟩
  have HD := Lib.hid (show ZL w w4 _ 1 b ⟨0, 2, 4⟩ 2001 q [[3, 1], []] from hN.st)
  clear hN
  go_wp2_with fail
  refine (zl_put HD.out (by decide) 0 2 1 (by decide) (by decide) (zno_of (by decide)) (by decide)).mono ?_
  rintro e w5 ⟨rfl, hN⟩
  have HD := Lib.hid (show ZL w w5 _ 1 b ⟨0, 2, 4⟩ 3001 q [[3, 2, 1], []] from hN.st)
  clear hN
  go_wp2_with fail
  refine (zl_list HD.out 0).mono ?_
  rintro e w6 ⟨r, rfl, hr, hN⟩
  have hI := hr
  have HD := Lib.hid (show ZL w w6 _ 1 b ⟨0, 2, 4⟩ 3001 q [[3, 2, 1], []] from HD.out.below hN 1)
  clear hN
  go_wp2_with fail
  refine (zalike_any _ _ _ (ints [3, 2, 1]) [3, 2, 1] _ ((hr.alloc _).ints (Nat.le_refl _)) (Ints.arr (l := [3, 2, 1]) (Arr.new w6 3 [.int .i64 3, .int .i64 2, .int .i64 1]) (Nat.le_refl _)) (by decide)).mono ?_
  rw [show alk (ints [3, 2, 1]) [3, 2, 1] = true from by decide]
  rintro e w7 ⟨rfl, hN⟩
  have HD := Lib.hid (show ZL w w7 _ 1 b ⟨0, 2, 4⟩ 3001 q [[3, 2, 1], []] from (HD.out.below (fb_alloc (Below.refl _ _) _) 1).below hN 1)
  clear hN hr hI
  go_wp2_with fail
  refine (zl_where_yes HD.out 0 2 (by decide)).mono ?_
  rintro e w8 ⟨rfl, hN⟩
  have HD := Lib.hid (show ZL w w8 _ 1 b ⟨0, 2, 4⟩ 3001 q [[3, 2, 1], []] from HD.out.below hN 1)
  clear hN
  go_wp2_with fail
  refine (zl_put_twice HD.out 1 0 1 0 (by decide) (by decide) (by decide) (by decide)).mono ?_
  rintro e w9 ⟨rfl, hN⟩
  have HD := Lib.hid (show ZL w w9 _ 1 b ⟨0, 2, 4⟩ 3001 q [[3, 2, 1], []] from HD.out.below hN 1)
  clear hN
  go_wp2_with fail
  refine (zl_put_arg HD.out (0) (4) (0) (by decide)).mono ?_
  rintro e w10 ⟨rfl, hN⟩
  have HD := Lib.hid (show ZL w w10 _ 1 b ⟨0, 2, 4⟩ 3001 q [[3, 2, 1], []] from HD.out.below hN 1)
  clear hN
  go_wp2_with fail
  refine (zl_put_arg HD.out (0) (-2) (0) (by decide)).mono ?_
  rintro e w11 ⟨rfl, hN⟩
  have HD := Lib.hid (show ZL w w11 _ 1 b ⟨0, 2, 4⟩ 3001 q [[3, 2, 1], []] from HD.out.below hN 1)
  clear hN
  go_wp2_with fail
  refine (zl_put_arg HD.out (2) (0) (0) (by decide)).mono ?_
  rintro e w12 ⟨rfl, hN⟩
  have HD := Lib.hid (show ZL w w12 _ 1 b ⟨0, 2, 4⟩ 3001 q [[3, 2, 1], []] from HD.out.below hN 1)
  clear hN
  go_wp2_with fail
  refine (zl_put_arg HD.out (-1) (0) (0) (by decide)).mono ?_
  rintro e w13 ⟨rfl, hN⟩
  have HD := Lib.hid (show ZL w w13 _ 1 b ⟨0, 2, 4⟩ 3001 q [[3, 2, 1], []] from HD.out.below hN 1)
  clear hN
  go_wp2_with fail
  refine (zl_put_arg HD.out (0) (0) (4) (by decide)).mono ?_
  rintro e w14 ⟨rfl, hN⟩
  have HD := Lib.hid (show ZL w w14 _ 1 b ⟨0, 2, 4⟩ 3001 q [[3, 2, 1], []] from HD.out.below hN 1)
  clear hN
  go_wp2_with fail
  refine (zl_put_arg HD.out (0) (0) (-1) (by decide)).mono ?_
  rintro e w15 ⟨rfl, hN⟩
  have HD := Lib.hid (show ZL w w15 _ 1 b ⟨0, 2, 4⟩ 3001 q [[3, 2, 1], []] from HD.out.below hN 1)
  clear hN
  go_wp2_with fail
  refine (zl_take HD.out (by decide) 0 0 (by decide)).mono ?_
  rintro e w16 ⟨rfl, hN⟩
  have HD := Lib.hid (show ZL w w16 _ 1 b ⟨0, 2, 4⟩ 4001 q [[2, 1], []] from hN.st)
  clear hN
  go_wp2_with fail
  refine (zl_take_none HD.out (3) (zno_of (by decide))).mono ?_
  rintro e w17 ⟨rfl, hN⟩
  have HD := Lib.hid (show ZL w w17 _ 1 b ⟨0, 2, 4⟩ 4001 q [[2, 1], []] from HD.out.below hN 1)
  clear hN
  go_wp2_with fail
  refine (zl_take_none HD.out (9) (zno_of (by decide))).mono ?_
  rintro e w18 ⟨rfl, hN⟩
  have HD := Lib.hid (show ZL w w18 _ 1 b ⟨0, 2, 4⟩ 4001 q [[2, 1], []] from HD.out.below hN 1)
  clear hN
  go_wp2_with fail
  refine (zl_at HD.out (0) (0)).mono ?_
  rintro e w19 ⟨rfl, hN⟩
  have HD := Lib.hid (show ZL w w19 _ 1 b ⟨0, 2, 4⟩ 4001 q [[2, 1], []] from HD.out.below hN 1)
  clear hN
  go_wp2_with fail
  refine (zl_at HD.out (0) (2)).mono ?_
  rintro e w20 ⟨rfl, hN⟩
  have HD := Lib.hid (show ZL w w20 _ 1 b ⟨0, 2, 4⟩ 4001 q [[2, 1], []] from HD.out.below hN 1)
  clear hN
  go_wp2_with fail
  refine (zl_at HD.out (0) (-1)).mono ?_
  rintro e w21 ⟨rfl, hN⟩
  have HD := Lib.hid (show ZL w w21 _ 1 b ⟨0, 2, 4⟩ 4001 q [[2, 1], []] from HD.out.below hN 1)
  clear hN
  go_wp2_with fail
  refine (zl_at HD.out (5) (0)).mono ?_
  rintro e w22 ⟨rfl, hN⟩
  have HD := Lib.hid (show ZL w w22 _ 1 b ⟨0, 2, 4⟩ 4001 q [[2, 1], []] from HD.out.below hN 1)
  clear hN
  go_wp2_with fail
  refine (zl_re_ok (HD.out.below (fb_alloc (Below.refl _ _) _) 9) (by decide) (0) _ [1, 0] (Ints.arr (l := [1, 0]) (Arr.new w22 3 [.int .i64 1, .int .i64 0]) (Nat.le_refl _)) (fun bl o n c e => by injection e with e _ _; injection e with e; injection e with e _ _; subst e; show recol _ _ _ _ ≠ 1; rw [recol_ge (Nat.le_refl _)]; decide) (by decide)).mono ?_
  rintro e w23 ⟨rfl, hN⟩
  have HD := Lib.hid (show ZL w w23 _ 1 b ⟨0, 2, 4⟩ 5001 q [[1, 2], []] from hN.st)
  clear hN
  go_wp2_with fail
  refine (zl_list HD.out 0).mono ?_
  rintro e w24 ⟨r, rfl, hr, hN⟩
  have hI := hr
  have HD := Lib.hid (show ZL w w24 _ 1 b ⟨0, 2, 4⟩ 5001 q [[1, 2], []] from HD.out.below hN 1)
  clear hN
  go_wp2_with fail
  refine (zalike_any _ _ _ (ints [1, 2]) [1, 2] _ ((hr.alloc _).ints (Nat.le_refl _)) (Ints.arr (l := [1, 2]) (Arr.new w24 3 [.int .i64 1, .int .i64 2]) (Nat.le_refl _)) (by decide)).mono ?_
  rw [show alk (ints [1, 2]) [1, 2] = true from by decide]
  rintro e w25 ⟨rfl, hN⟩
  have HD := Lib.hid (show ZL w w25 _ 1 b ⟨0, 2, 4⟩ 5001 q [[1, 2], []] from (HD.out.below (fb_alloc (Below.refl _ _) _) 1).below hN 1)
  clear hN hr hI
  go_wp2_with fail
  refine (zl_re_bad (HD.out.below (fb_alloc (Below.refl _ _) _) 9) (0) _ [1, 1] (Ints.arr (l := [1, 1]) (Arr.new w25 3 [.int .i64 1, .int .i64 1]) (Nat.le_refl _)) (fun bl o n c e => by injection e with e _ _; injection e with e; injection e with e _ _; subst e; show recol _ _ _ _ ≠ 1; rw [recol_ge (Nat.le_refl _)]; decide) (by decide)).mono ?_
  rintro e w26 ⟨rfl, hN⟩
  have HD := Lib.hid (show ZL w w26 _ 1 b ⟨0, 2, 4⟩ 5001 q [[1, 2], []] from (HD.out.below (fb_alloc (Below.refl _ _) _) 9).below hN 9)
  clear hN
  go_wp2_with fail
  refine (zl_re_bad (HD.out.below (fb_alloc (Below.refl _ _) _) 9) (0) _ [0] (Ints.arr (l := [0]) (Arr.new w26 3 [.int .i64 0]) (Nat.le_refl _)) (fun bl o n c e => by injection e with e _ _; injection e with e; injection e with e _ _; subst e; show recol _ _ _ _ ≠ 1; rw [recol_ge (Nat.le_refl _)]; decide) (by decide)).mono ?_
  rintro e w27 ⟨rfl, hN⟩
  have HD := Lib.hid (show ZL w w27 _ 1 b ⟨0, 2, 4⟩ 5001 q [[1, 2], []] from (HD.out.below (fb_alloc (Below.refl _ _) _) 9).below hN 9)
  clear hN
  go_wp2_with fail
  refine (zl_re_bad (HD.out.below (fb_alloc (Below.refl _ _) _) 9) (0) _ [0, 2] (Ints.arr (l := [0, 2]) (Arr.new w27 3 [.int .i64 0, .int .i64 2]) (Nat.le_refl _)) (fun bl o n c e => by injection e with e _ _; injection e with e; injection e with e _ _; subst e; show recol _ _ _ _ ≠ 1; rw [recol_ge (Nat.le_refl _)]; decide) (by decide)).mono ?_
  rintro e w28 ⟨rfl, hN⟩
  have HD := Lib.hid (show ZL w w28 _ 1 b ⟨0, 2, 4⟩ 5001 q [[1, 2], []] from (HD.out.below (fb_alloc (Below.refl _ _) _) 9).below hN 9)
  clear hN
  go_wp2_with fail
  refine (zl_re_bad HD.out (7) (.slice none 0 0) [] (Ints.nil _ _) (fun bl o n c e => by cases e) (by decide)).mono ?_
  rintro e w29 ⟨rfl, hN⟩
  have HD := Lib.hid (show ZL w w29 _ 1 b ⟨0, 2, 4⟩ 5001 q [[1, 2], []] from HD.out.below hN 1)
  clear hN
  go_wp2_with fail
  refine (zl_re_ok HD.out (by decide) (1) (.slice none 0 0) [] (Ints.nil _ _) (fun bl o n c e => by cases e) (by decide)).mono ?_
  rintro e w30 ⟨rfl, hN⟩
  have HD := Lib.hid (show ZL w w30 _ 1 b ⟨0, 2, 4⟩ 6001 q [[1, 2], []] from hN.st)
  clear hN
  go_wp2_with fail
  refine (zl_where_no HD.out (3) (zno_of (by decide))).mono ?_
  rintro e w31 ⟨rfl, hN⟩
  have HD := Lib.hid (show ZL w w31 _ 1 b ⟨0, 2, 4⟩ 6001 q [[1, 2], []] from HD.out.below hN 1)
  clear hN
  go_wp2_with fail
  refine (zl_where_no HD.out (-1) (zno_of (by decide))).mono ?_
  rintro e w32 ⟨rfl, hN⟩
  have HD := Lib.hid (show ZL w w32 _ 1 b ⟨0, 2, 4⟩ 6001 q [[1, 2], []] from HD.out.below hN 1)
  clear hN
  go_wp2_with fail
  refine (calls_same_bel (zat_nil w32 0 0)).mono ?_
  rintro e w33 ⟨rfl, hN⟩
  have HD := Lib.hid (show ZL w w33 _ 1 b ⟨0, 2, 4⟩ 6001 q [[1, 2], []] from HD.out.below hN 1)
  clear hN
  go_wp2_with fail
  refine (calls_same_bel (where_nil w33 0)).mono ?_
  rintro e w34 ⟨rfl, hN⟩
  have HD := Lib.hid (show ZL w w34 _ 1 b ⟨0, 2, 4⟩ 6001 q [[1, 2], []] from HD.out.below hN 1)
  clear hN
  go_wp2_with fail
  refine (zl_list HD.out 9).mono ?_
  rintro e w35 ⟨r, rfl, hr, hN⟩
  obtain ⟨x, cap, rfl⟩ := (show IRow w35 _ r [] from hr).any
  have HD := Lib.hid (show ZL w w35 _ 1 b ⟨0, 2, 4⟩ 6001 q [[1, 2], []] from HD.out.below hN 1)
  clear hN
  clear hr
  go_wp2_with fail
  refine (zl_len HD.out (-1)).mono ?_
  rintro e w36 ⟨rfl, hN⟩
  have HD := Lib.hid (show ZL w w36 _ 1 b ⟨0, 2, 4⟩ 6001 q [[1, 2], []] from HD.out.below hN 1)
  clear hN
  go_wp2_with fail
  refine (calls_same_bel (put_nil w36 0 0 0)).mono ?_
  rintro e w37 ⟨rfl, hN⟩
  have HD := Lib.hid (show ZL w w37 _ 1 b ⟨0, 2, 4⟩ 6001 q [[1, 2], []] from HD.out.below hN 1)
  clear hN
  go_wp2_with fail
  refine (calls_same_bel (take_nil w37 0)).mono ?_
  rintro e w38 ⟨rfl, hN⟩
  have HD := Lib.hid (show ZL w w38 _ 1 b ⟨0, 2, 4⟩ 6001 q [[1, 2], []] from HD.out.below hN 1)
  clear hN
  go_wp2_with fail
  refine (re_nil w38 0 (.slice none 0 0)).mono ?_
  rintro e w39 ⟨rfl, hN⟩
  have HD := Lib.hid (show ZL w w39 _ 1 b ⟨0, 2, 4⟩ 6001 q [[1, 2], []] from HD.out.below hN 1)
  clear hN
  go_wp2_with fail
  refine (calls_same_bel (zlen_nil w39 0)).mono ?_
  rintro e w40 ⟨rfl, hN⟩
  have HD := Lib.hid (show ZL w w40 _ 1 b ⟨0, 2, 4⟩ 6001 q [[1, 2], []] from HD.out.below hN 1)
  clear hN
  go_wp2_with fail
  refine (zlist_nil w40 0).mono ?_
  rintro e w41 ⟨r, rfl, hr, hN⟩
  obtain ⟨x, cap, rfl⟩ := (show IRow w41 _ r [] from hr).any
  have HD := Lib.hid (show ZL w w41 _ 1 b ⟨0, 2, 4⟩ 6001 q [[1, 2], []] from HD.out.below hN 1)
  clear hN
  clear hr
  go_wp2_with fail
  refine (znew_nil w41 1 1).mono ?_
  rintro e w42 ⟨rfl, hN⟩
  have HD := Lib.hid (show ZL w w42 _ 1 b ⟨0, 2, 4⟩ 6001 q [[1, 2], []] from HD.out.below hN 1)
  clear hN
  go_wp2_with fail
  refine (tr_new w42).mono ?_
  rintro e w43 ⟨rfl, hT0⟩
  obtain ⟨T, hT⟩ : ∃ T, w42.heap.size = T := ⟨_, rfl⟩
  have hN := (hT0 w42 (Below.refl _ _)).2
  rw [hT]
  clear hT hT0
  have HD := Lib.hid (show ZL w w43 _ 1 b ⟨0, 2, 4⟩ 6001 q [[1, 2], []] from HD.out.below hN 1)
  clear hN
  go_wp2_with fail
  refine (znew_no w43 ⟨T, 0, none⟩ 0 1 (by decide)).mono ?_
  rintro e w44 ⟨rfl, hN⟩
  have HD := Lib.hid (show ZL w w44 _ 1 b ⟨0, 2, 4⟩ 6001 q [[1, 2], []] from HD.out.below hN 1)
  clear hN
  go_wp2_with fail
  refine (tr_new w44).mono ?_
  rintro e w45 ⟨rfl, hT0⟩
  obtain ⟨T, hT⟩ : ∃ T, w44.heap.size = T := ⟨_, rfl⟩
  have hN := (hT0 w44 (Below.refl _ _)).2
  rw [hT]
  clear hT hT0
  have HD := Lib.hid (show ZL w w45 _ 1 b ⟨0, 2, 4⟩ 6001 q [[1, 2], []] from HD.out.below hN 1)
  clear hN
  go_wp2_with fail
  refine (znew_no w45 ⟨T, 0, none⟩ 65 1 (by decide)).mono ?_
  rintro e w46 ⟨rfl, hN⟩
  have HD := Lib.hid (show ZL w w46 _ 1 b ⟨0, 2, 4⟩ 6001 q [[1, 2], []] from HD.out.below hN 1)
  clear hN
  go_wp2_with fail
  refine (tr_new w46).mono ?_
  rintro e w47 ⟨rfl, hT0⟩
  obtain ⟨T, hT⟩ : ∃ T, w46.heap.size = T := ⟨_, rfl⟩
  have hN := (hT0 w46 (Below.refl _ _)).2
  rw [hT]
  clear hT hT0
  have HD := Lib.hid (show ZL w w47 _ 1 b ⟨0, 2, 4⟩ 6001 q [[1, 2], []] from HD.out.below hN 1)
  clear hN
  go_wp2_with fail
  refine (znew_no w47 ⟨T, 0, none⟩ 1 0 (by decide)).mono ?_
  rintro e w48 ⟨rfl, hN⟩
  have HD := Lib.hid (show ZL w w48 _ 1 b ⟨0, 2, 4⟩ 6001 q [[1, 2], []] from HD.out.below hN 1)
  clear hN
  go_wp2_with fail
  refine (tr_new w48).mono ?_
  rintro e w49 ⟨rfl, hT0⟩
  obtain ⟨T, hT⟩ : ∃ T, w48.heap.size = T := ⟨_, rfl⟩
  have hN := (hT0 w48 (Below.refl _ _)).2
  rw [hT]
  clear hT hT0
  have HD := Lib.hid (show ZL w w49 _ 1 b ⟨0, 2, 4⟩ 6001 q [[1, 2], []] from HD.out.below hN 1)
  clear hN
  go_wp2_with fail
  refine (znew_no w49 ⟨T, 0, none⟩ 1 257 (by decide)).mono ?_
  rintro e w50 ⟨rfl, hN⟩
  have HD := Lib.hid (show ZL w w50 _ 1 b ⟨0, 2, 4⟩ 6001 q [[1, 2], []] from HD.out.below hN 1)
  clear hN
  go_wp2_with fail
  refine (zworks_any w50).mono ?_
  rintro e w51 ⟨rfl, hN⟩
  have HD := Lib.hid (show ZL w w51 _ 1 b ⟨0, 2, 4⟩ 6001 q [[1, 2], []] from HD.out.below hN 1)
  clear hN
  have HB := Lib.hid HD.out.bel
  clear HD
  go_wp2
  go_ret
  exact ⟨rfl, HB.out⟩
end Go.Proofs.Ytfkkkndigkchcaa
