/- TrailKnown: the examples, and others. No condition. -/
import Derived.Test.YtfkkkndigkchcaaTrailWorks
import Derived.Test.YtfkkkndigkchcaaOpenS
namespace Go.Proofs.Ytfkkkndigkchcaa
open Go.ChangeShapes Go.WideShapes Go.ChangeAt Go.RowKit

set_option maxRecDepth 100000 in
set_option maxHeartbeats 4000000 in
theorem trailKnown_walk (w : World) : Calls Try.prog 6 #[] w fun e w' => e = .returned (.bool true) ∧ Below w.heap.size w w' := by
  go_enter Try.func6, Try.ntmps6
  go_wp2_with fail
  refine (tr_new _).mono ?_
  rintro e w1 ⟨rfl, hn⟩
  obtain ⟨t0, b0⟩ := hn w (Below.refl _ _)
  have Ht := Lib.hid t0
  clear hn t0 b0
  go_wp2_with fail
  refine (tr_len Ht.out).mono ?_
  rintro e w' ⟨he, rfl⟩
  obtain rfl : e = .returned (.int .i64 0) := he
  go_wp2_with fail
  refine (tr_mark Ht.out).mono ?_
  rintro e w' ⟨he, rfl⟩
  obtain rfl : e = .returned (.int .i64 0) := he
  go_wp2_with fail
  refine (tr_alloc Ht.out 2 (by unfold canA; simp) (by simp)).mono ?_
  rintro e w2 ⟨he, hn⟩
  obtain rfl : e = .returned (.int .i64 0) := he
  obtain ⟨O2, t0, o0⟩ := hn.st
  have K0 : TrS w w2 w.heap.size O2 [0, 0] [((-1), 2)] := by exact t0
  clear Ht
  have Ht := Lib.hid K0
  clear hn t0 o0 K0
  go_wp2_with fail
  refine (tr_alloc Ht.out 1 (by unfold canA; simp) (by simp)).mono ?_
  rintro e w3 ⟨he, hn⟩
  obtain rfl : e = .returned (.int .i64 2) := he
  obtain ⟨O3, t0, o0⟩ := hn.st
  have K0 : TrS w w3 w.heap.size O3 [0, 0, 0] [((-1), 2), ((-1), 1)] := by exact t0
  clear Ht
  have Ht := Lib.hid K0
  clear hn t0 o0 K0
  go_wp2_with fail
  refine (tr_set Ht.out 1 5 (by simp)).mono ?_
  rintro e w4 ⟨rfl, hn⟩
  obtain ⟨O4, t0, o0⟩ := hn.st
  have K0 : TrS w w4 w.heap.size O4 [0, 5, 0] [((-1), 2), ((-1), 1), (1, 0)] := by have q := t0; rwa [show setC [0, 0, 0] 1 5 = [0, 5, 0] from by decide, show setH [0, 0, 0] [((-1), 2), ((-1), 1)] 1 5 = [((-1), 2), ((-1), 1), (1, 0)] from by decide] at q
  clear Ht
  have Ht := Lib.hid K0
  clear hn t0 o0 K0
  go_wp2_with fail
  refine (tr_mark Ht.out).mono ?_
  rintro e w' ⟨he, rfl⟩
  obtain rfl : e = .returned (.int .i64 3) := he
  go_wp2_with fail
  refine (tr_get Ht.out 1).mono ?_
  rintro e w' ⟨he, rfl⟩
  rw [show getZ [0, 5, 0] 1 = 5 from by decide] at he
  subst he
  go_wp2_with fail
  refine (tr_set Ht.out 1 7 (by simp)).mono ?_
  rintro e w5 ⟨rfl, hn⟩
  obtain ⟨O5, t0, o0⟩ := hn.st
  have K0 : TrS w w5 w.heap.size O5 [0, 7, 0] [((-1), 2), ((-1), 1), (1, 0), (1, 5)] := by have q := t0; rwa [show setC [0, 5, 0] 1 7 = [0, 7, 0] from by decide, show setH [0, 5, 0] [((-1), 2), ((-1), 1), (1, 0)] 1 7 = [((-1), 2), ((-1), 1), (1, 0), (1, 5)] from by decide] at q
  clear Ht
  have Ht := Lib.hid K0
  clear hn t0 o0 K0
  go_wp2_with fail
  refine (tr_alloc Ht.out 4 (by unfold canA; simp) (by simp)).mono ?_
  rintro e w6 ⟨he, hn⟩
  obtain rfl : e = .returned (.int .i64 3) := he
  obtain ⟨O6, t0, o0⟩ := hn.st
  have K0 : TrS w w6 w.heap.size O6 [0, 7, 0, 0, 0, 0, 0] [((-1), 2), ((-1), 1), (1, 0), (1, 5), ((-1), 4)] := by exact t0
  clear Ht
  have Ht := Lib.hid K0
  clear hn t0 o0 K0
  go_wp2_with fail
  refine (tr_len Ht.out).mono ?_
  rintro e w' ⟨he, rfl⟩
  obtain rfl : e = .returned (.int .i64 7) := he
  go_wp2_with fail
  refine (tr_back Ht.out 3 (by simp) (by simp)).mono ?_
  rintro e w7 ⟨rfl, hn⟩
  obtain ⟨O7, t0, o0⟩ := hn.st
  have K0 : TrS w w7 w.heap.size O7 [0, 5, 0] [((-1), 2), ((-1), 1), (1, 0)] := by have q := t0; rw [show was [0, 7, 0, 0, 0, 0, 0] [((-1), 2), ((-1), 1), (1, 0), (1, 5), ((-1), 4)] 3 = [0, 5, 0] from by decide] at q; exact q
  clear Ht
  have Ht := Lib.hid K0
  clear hn t0 o0 K0
  go_wp2_with fail
  refine (tr_get Ht.out 1).mono ?_
  rintro e w' ⟨he, rfl⟩
  rw [show getZ [0, 5, 0] 1 = 5 from by decide] at he
  subst he
  go_wp2_with fail
  refine (tr_len Ht.out).mono ?_
  rintro e w' ⟨he, rfl⟩
  obtain rfl : e = .returned (.int .i64 3) := he
  go_wp2_with fail
  refine (tr_back_no Ht.out 9 (by simp)).mono ?_
  rintro e w8 ⟨rfl, hb⟩
  have K0 := Ht.out.below hb
  clear Ht
  have Ht := Lib.hid K0
  clear hb K0
  go_wp2_with fail
  refine (tr_back_no Ht.out (-1) (by simp)).mono ?_
  rintro e w9 ⟨rfl, hb⟩
  have K0 := Ht.out.below hb
  clear Ht
  have Ht := Lib.hid K0
  clear hb K0
  go_wp2_with fail
  refine (tr_get Ht.out 9).mono ?_
  rintro e w' ⟨he, rfl⟩
  rw [show getZ [0, 5, 0] 9 = 0 from by decide] at he
  subst he
  go_wp2_with fail
  refine (tr_get Ht.out (-1)).mono ?_
  rintro e w' ⟨he, rfl⟩
  rw [show getZ [0, 5, 0] (-1) = 0 from by decide] at he
  subst he
  go_wp2_with fail
  refine (tr_alloc_no Ht.out 0 (by unfold canA; simp)).mono ?_
  rintro e w' ⟨rfl, rfl⟩
  go_wp2_with fail
  refine (tr_alloc_no Ht.out (-1) (by unfold canA; simp)).mono ?_
  rintro e w' ⟨rfl, rfl⟩
  go_wp2_with fail
  refine (tr_alloc_no Ht.out 1048576 (by unfold canA; simp)).mono ?_
  rintro e w' ⟨rfl, rfl⟩
  go_wp2_with fail
  refine (tr_set Ht.out 1 5 (by simp)).mono ?_
  rintro e w10 ⟨rfl, hn⟩
  obtain ⟨O10, t0, o0⟩ := hn.st
  have K0 : TrS w w10 w.heap.size O10 [0, 5, 0] [((-1), 2), ((-1), 1), (1, 0)] := by have q := t0; rwa [show setC [0, 5, 0] 1 5 = [0, 5, 0] from by decide, show setH [0, 5, 0] [((-1), 2), ((-1), 1), (1, 0)] 1 5 = [((-1), 2), ((-1), 1), (1, 0)] from by decide] at q
  clear Ht
  have Ht := Lib.hid K0
  clear hn t0 o0 K0
  go_wp2_with fail
  refine (tr_set Ht.out 3 5 (by simp)).mono ?_
  rintro e w11 ⟨rfl, hn⟩
  obtain ⟨O11, t0, o0⟩ := hn.st
  have K0 : TrS w w11 w.heap.size O11 [0, 5, 0] [((-1), 2), ((-1), 1), (1, 0)] := by have q := t0; rwa [show setC [0, 5, 0] 3 5 = [0, 5, 0] from by decide, show setH [0, 5, 0] [((-1), 2), ((-1), 1), (1, 0)] 3 5 = [((-1), 2), ((-1), 1), (1, 0)] from by decide] at q
  clear Ht
  have Ht := Lib.hid K0
  clear hn t0 o0 K0
  go_wp2_with fail
  refine (tr_set Ht.out (-1) 5 (by simp)).mono ?_
  rintro e w12 ⟨rfl, hn⟩
  obtain ⟨O12, t0, o0⟩ := hn.st
  have K0 : TrS w w12 w.heap.size O12 [0, 5, 0] [((-1), 2), ((-1), 1), (1, 0)] := by have q := t0; rwa [show setC [0, 5, 0] (-1) 5 = [0, 5, 0] from by decide, show setH [0, 5, 0] [((-1), 2), ((-1), 1), (1, 0)] (-1) 5 = [((-1), 2), ((-1), 1), (1, 0)] from by decide] at q
  clear Ht
  have Ht := Lib.hid K0
  clear hn t0 o0 K0
  go_wp2_with fail
  refine (tr_mark Ht.out).mono ?_
  rintro e w' ⟨he, rfl⟩
  obtain rfl : e = .returned (.int .i64 3) := he
  go_wp2_with fail
  refine (tr_back Ht.out 0 (by simp) (by simp)).mono ?_
  rintro e w13 ⟨rfl, hn⟩
  obtain ⟨O13, t0, o0⟩ := hn.st
  have K0 : TrS w w13 w.heap.size O13 [] [] := by have q := t0; rw [show was [0, 5, 0] [((-1), 2), ((-1), 1), (1, 0)] 0 = [] from by decide] at q; exact q
  clear Ht
  have Ht := Lib.hid K0
  clear hn t0 o0 K0
  go_wp2_with fail
  refine (tset_nil _ _ _).mono ?_
  rintro e w' ⟨rfl, rfl⟩
  go_wp2_with fail
  refine (tr_len Ht.out).mono ?_
  rintro e w' ⟨he, rfl⟩
  obtain rfl : e = .returned (.int .i64 0) := he
  go_wp2_with fail
  refine (tr_alloc Ht.out 1048576 (by unfold canA; simp) (by simp)).mono ?_
  rintro e wa ⟨he, hn⟩
  obtain rfl : e = .returned (.int .i64 0) := he
  obtain ⟨Oa, t0, o0⟩ := hn.st
  clear Ht
  have Ht := Lib.hid t0
  clear hn t0 o0
  go_wp2_with fail
  refine (tr_alloc_no Ht.out 1 (fun h => by have := h.2; rw [List.nil_append, List.length_replicate] at this; omega)).mono ?_
  rintro e w' ⟨rfl, rfl⟩
  go_wp2_with fail
  refine (tlen_nil _).mono ?_
  rintro e w' ⟨rfl, rfl⟩
  go_wp2_with fail
  refine (tget_nil _ _).mono ?_
  rintro e w' ⟨rfl, rfl⟩
  go_wp2_with fail
  refine (talloc_nil _ _).mono ?_
  rintro e w' ⟨rfl, rfl⟩
  go_wp2_with fail
  refine (tmark_nil _).mono ?_
  rintro e w' ⟨rfl, rfl⟩
  go_wp2_with fail
  refine (tback_nil _ _).mono ?_
  rintro e wb ⟨rfl, hb⟩
  have HB := Lib.hid hb
  clear hb
  go_wp2_with fail
  refine (tworks_any _).mono ?_
  rintro e wc ⟨rfl, hc⟩
  have HC := Lib.hid hc
  clear hc
  go_wp2
  go_ret
  exact ⟨rfl, fb_call (fb_call Ht.out.bel HB.out) HC.out⟩

theorem trailKnown_own : ownKnob Try.prog.godebug = none := by kernel_rfl
theorem trailKnown_laidOut : laidOutB Try.prog = true := by kernel_rfl

set_option maxHeartbeats 1000000 in
set_option maxRecDepth 100000 in
theorem trailKnown_lifted (os : Os) (started : os.Started) (H : Type) (enc : TypeId × Value → H) :
    ReturnsInHanded {} Try.checked os 6 .any (Rows.trailKnownSpec.pre6 enc Try.prog Try.f6 Rows.trailKnownRow.domain false) (Rows.trailKnownSpec.post enc Try.prog Try.f6 false true false false) := by
  refine returnsInHanded_of_change (C := Try.checked) trailKnown_own started (by kernel_rfl) Try.func6
    (ChangeSpec.witness6 (enc := enc) (C := Try.checked) false ⟨#[], #[], []⟩ 8 (by kernel_rfl) (by kernel_rfl) (by kernel_rfl) (by kernel_rfl)) ?_
  intro W base args ds gs before hval0 hW hcnd _
  have hval : ∀ (j : Nat) t v, Try.f6.params[j]? = some t → args[j]? = some v → Value.okWide Try.prog W .any base t v := hval0
  have hW' := hW
  obtain ⟨p, q, hA0, hV, rfl, hfz, hnd⟩ := hW
  have hA : DataW.TrodAll enc Try.prog W 0 (fun _ => true) true Try.f6.params.toList args.toList ds p := hA0
  rw [Try.params6] at hA hval
  obtain ⟨hargs, rfl, rfl⟩ := trodAll_nil hA
  obtain rfl : args = #[] := by cases args; simp_all
  obtain ⟨rfl, rfl⟩ := trodVars_none hV
  clear hA0 hval0
  refine (trailKnown_walk W).mono fun e W' ⟨he, bel⟩ => ?_
  subst he
  exact ⟨_, rfl, _, _, _, [], _, [], hW', trodAll_mk1 (shut_bool Try.underlying4 _), trodAll_mk0, rfl, bel.frame _, fun h => by cases h⟩

theorem trailKnown_over : Rows.trailKnownRow.holds Try.pinned (OpenSpec.ofChange Rows.trailKnownSpec) :=
  OpenClaim.holds_of_wide 6 Try.f6 rfl rfl rfl rfl rfl rfl rfl ⟨rfl, rfl, rfl, rfl, rfl⟩ rfl rfl rfl rfl rfl (by kernel_rfl) Try.func6 (by kernel_rfl)
    (of_decide_eq_true (by kernel_rfl)) (by unfold Func.isWrapper; first | (rw [if_pos (by decide +kernel)]; kernel_rfl) | (rw [if_neg (by decide +kernel)]; exact ⟨rfl, rfl⟩))
    (fun os started H enc _ => trailKnown_lifted os started H enc)

/-- The statement. -/
theorem trailKnown_holds : Rows.TrailKnownSaid := trailKnown_over
#print axioms trailKnown_holds
end Go.Proofs.Ytfkkkndigkchcaa
