/- The walk of works, of layer 9. No condition. -/
import Derived.Test.YtfkkkndigkchcaaZoneH
import Derived.Test.YtfkkkndigkchcaaZoneI
namespace Go.Proofs.Ytfkkkndigkchcaa
open Go.RowKit
attribute [local irreducible] Calls

theorem zno_of {L : List (List Nat)} {s : Int} (h : (L.all fun l => l.all fun t => decide ((t : Int) ≠ s)) = true) : zno L s := by
  intro z t ht
  have hz : z < L.length := Classical.byContradiction fun hz => by
    rw [List.getD_eq_getElem?_getD, List.getElem?_eq_none (by omega)] at ht; cases ht
  rw [List.getD_eq_getElem?_getD, List.getElem?_eq_getElem hz] at ht
  exact of_decide_eq_true (List.all_eq_true.1 (List.all_eq_true.1 h _ (List.getElem_mem hz)) t ht)
set_option maxRecDepth 100000 in
set_option maxHeartbeats 2000000 in
theorem zworks_any (w : World) : Calls Try.prog 43 #[] w fun e w' => e = .returned (.bool true) ∧ Below w.heap.size w w' := by
  go_enter Try.func43, Try.ntmps43
  go_wp2_with fail
  refine (tr_new w).mono ?_
  rintro e w0 ⟨rfl, hT0⟩
  obtain ⟨T, hT⟩ : ∃ T, w.heap.size = T := ⟨_, rfl⟩
  have HT := Lib.hid (hT0 w (Below.refl _ _)).1
  rw [hT] at HT ⊢
  clear hT0 hT
  go_wp2_with fail
  refine (zl_new (col := fun _ => 1) (c := 1) HT.out (fun _ _ => rfl) 2 4 (by decide) (by decide) (by decide) (by decide)).mono ?_
  rintro e w1 ⟨b, q, rfl, hbT, hN⟩
  have HD := Lib.hid (show ZL w w1 _ 1 b ⟨0, 2, 4⟩ 1 q [[], []] from hN.st)
  clear hN HT hbT
  go_wp2_with fail
  refine (zl_put_end HD.out (by decide) 0 3 (by decide) (by decide) (zno_of (by decide))).mono ?_
  rintro e w2 ⟨rfl, hN⟩
  have HD := Lib.hid (show ZL w w2 _ 1 b ⟨0, 2, 4⟩ 1001 q [[3], []] from hN.st)
  clear hN
  go_wp2_with fail
  refine (zl_put_end HD.out (by decide) 0 1 (by decide) (by decide) (zno_of (by decide))).mono ?_
  rintro e w3 ⟨rfl, hN⟩
  have HD := Lib.hid (show ZL w w3 _ 1 b ⟨0, 2, 4⟩ 2001 q [[3, 1], []] from hN.st)
  clear hN
  go_wp2_with fail
  refine (zl_put HD.out (by decide) 0 2 1 (by decide) (by decide) (zno_of (by decide)) (by decide)).mono ?_
  rintro e w4 ⟨rfl, hN⟩
  have HD := Lib.hid (show ZL w w4 _ 1 b ⟨0, 2, 4⟩ 3001 q [[3, 2, 1], []] from hN.st)
  clear hN
  go_wp2_with fail
  refine (zl_list HD.out 0).mono ?_
  rintro e w5 ⟨r, rfl, hr, hN⟩
  have hI := hr
  have HD := Lib.hid (show ZL w w5 _ 1 b ⟨0, 2, 4⟩ 3001 q [[3, 2, 1], []] from HD.out.below hN 1)
  clear hN
  go_wp2_with fail
  refine (zalike_any _ _ _ (ints [3, 2, 1]) [3, 2, 1] _ ((hr.alloc _).ints (Nat.le_refl _)) (Ints.arr (l := [3, 2, 1]) (Arr.new w5 3 [.int .i64 3, .int .i64 2, .int .i64 1]) (Nat.le_refl _)) (by decide)).mono ?_
  rw [show alk (ints [3, 2, 1]) [3, 2, 1] = true from by decide]
  rintro e w6 ⟨rfl, hN⟩
  have HD := Lib.hid (show ZL w w6 _ 1 b ⟨0, 2, 4⟩ 3001 q [[3, 2, 1], []] from (HD.out.below (fb_alloc (Below.refl _ _) _) 1).below hN 1)
  clear hN hr hI
  go_wp2_with fail
  refine (zl_take HD.out (by decide) 0 1 (by decide)).mono ?_
  rintro e w7 ⟨rfl, hN⟩
  have HD := Lib.hid (show ZL w w7 _ 1 b ⟨0, 2, 4⟩ 4001 q [[3, 1], []] from hN.st)
  clear hN
  go_wp2_with fail
  refine (zl_list HD.out 0).mono ?_
  rintro e w8 ⟨r, rfl, hr, hN⟩
  have hI := hr
  have HD := Lib.hid (show ZL w w8 _ 1 b ⟨0, 2, 4⟩ 4001 q [[3, 1], []] from HD.out.below hN 1)
  clear hN
  go_wp2_with fail
  refine (zalike_any _ _ _ (ints [3, 1]) [3, 1] _ ((hr.alloc _).ints (Nat.le_refl _)) (Ints.arr (l := [3, 1]) (Arr.new w8 3 [.int .i64 3, .int .i64 1]) (Nat.le_refl _)) (by decide)).mono ?_
  rw [show alk (ints [3, 1]) [3, 1] = true from by decide]
  rintro e w9 ⟨rfl, hN⟩
  have HD := Lib.hid (show ZL w w9 _ 1 b ⟨0, 2, 4⟩ 4001 q [[3, 1], []] from (HD.out.below (fb_alloc (Below.refl _ _) _) 1).below hN 1)
  clear hN hr hI
  have HB := Lib.hid HD.out.bel
  clear HD
  go_wp2
  go_ret
  exact ⟨rfl, HB.out⟩
end Go.Proofs.Ytfkkkndigkchcaa
