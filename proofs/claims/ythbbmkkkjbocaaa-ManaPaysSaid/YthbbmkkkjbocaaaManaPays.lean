/- ManaPays: whether it can be paid, and what is left, is as the reference says, for all mana and costs. No condition. -/
import Derived.Test.YthbbmkkkjbocaaaManaC
import Derived.Test.YthbbmkkkjbocaaaOpen
namespace Go.Proofs.Ythbbmkkkjbocaaa
open Go.ChangeShapes Go.WideShapes Go.ChangeAt Go.RowKit

theorem rcan_any (a b c d x y z u : Int) (w : World) : Calls Try.prog 11 #[mana a b c d, mana x y z u] w fun e w' => e = .returned (.bool (canB a b c d x y z u)) ∧ Below w.heap.size w w' :=
  (rcan_at _ _ _ _ _ _ _ _ _ _ _ _ _ _ _ _ (Lib.hid rfl) (Lib.hid rfl) (Lib.hid rfl) (Lib.hid rfl) (Lib.hid rfl) (Lib.hid rfl) (Lib.hid rfl) (Lib.hid rfl) w).mono
    fun e w' ⟨he, o1, o2, o3, o4, o5, o6, n, hw⟩ => ⟨he, by rw [← hw]; exact (by repeat (first | exact Below.refl _ _ | refine fb_alloc ?_ _ | refine fb_lat ?_ _ | refine fb_drew ?_ | refine fb_drewN ?_ _))⟩

theorem pays_case (a b c d x y z u r0 r1 r2 r3 q : Int) (B : Bool) (w : World)
    (h1 : ∀ W, Calls Try.prog 8 #[mana a b c d, mana x y z u] W fun e w' => e = .returned (.tuple #[mana r0 r1 r2 r3, .int .i64 q]) ∧ ∃ u, lat W u = w')
    (h2 : ∀ W, Calls Try.prog 9 #[mana a b c d, mana x y z u] W fun e w' => e = .returned (.tuple #[mana r0 r1 r2 r3, .int .i64 q]) ∧ ∃ u, lat W u = w')
    (h3 : ∀ W, Calls Try.prog 10 #[mana a b c d, mana x y z u] W fun e w' => e = .returned (.bool B) ∧ Below W.heap.size W w')
    (h4 : ∀ W, Calls Try.prog 11 #[mana a b c d, mana x y z u] W fun e w' => e = .returned (.bool B) ∧ Below W.heap.size W w') :
    Calls Try.prog 3 #[mana a b c d, mana x y z u] w fun e w' => e = .returned (.bool true) ∧ Below w.heap.size w w' := by
  have HA := Lib.hid h1; clear h1
  have HB := Lib.hid h2; clear h2
  have HC := Lib.hid h3; clear h3
  have HD := Lib.hid h4; clear h4
  go_enter Try.func3, Try.ntmps3
  go_wp2_with fail
  refine (HA.out _).mono ?_; rintro e w' ⟨rfl, u1, rfl⟩
  go_wp2_with fail
  refine (HB.out _).mono ?_; rintro e w' ⟨rfl, u2, rfl⟩
  go_wp2_with fail
  refine wp_region_lat (by kernel_rfl) (by kernel_rfl) ?_
  repeat (go_big_quiet_step (first | (go_at_call 10; exact quiet_lat (HC.out _)) | (go_at_call 11; exact quiet_lat (HD.out _)) | (go_at_call 12; exact quiet_lat (works_any _))))
  refine wpQuiet_nil ?_
  intro _ hw'
  obtain ⟨nu, hw''⟩ := hw'
  subst hw''
  go_wp2_with fail
  go_ret
  exact ⟨rfl, (by repeat (first | exact Below.refl _ _ | refine fb_alloc ?_ _ | refine fb_lat ?_ _ | refine fb_drew ?_ | refine fb_drewN ?_ _))⟩

theorem manaPays_walk (a b c d x y z u : Int) (w : World) : Calls Try.prog 3 #[mana a b c d, mana x y z u] w fun e w' => e = .returned (.bool true) ∧ Below w.heap.size w w' := by
  by_cases h : can (cl a) (cl b) (cl c) (cl d) (cl x) (cl y) (cl z) (cl u)
  · exact pays_case _ _ _ _ _ _ _ _ _ _ _ _ _ _ w (fun W => pay_yes a b c d x y z u W h) (fun W => calls_lat ((rpay_any a b c d x y z u W).mono fun _ _ ⟨he, hb⟩ => ⟨by rw [he, payV_yes h], hb⟩)) (fun W => can_any a b c d x y z u W) (fun W => rcan_any a b c d x y z u W)
  · exact pays_case _ _ _ _ _ _ _ _ _ _ _ _ _ _ w (fun W => pay_no a b c d x y z u W h) (fun W => calls_lat ((rpay_any a b c d x y z u W).mono fun _ _ ⟨he, hb⟩ => ⟨by rw [he, payV_no h], hb⟩)) (fun W => can_any a b c d x y z u W) (fun W => rcan_any a b c d x y z u W)

theorem manaPays_own : ownKnob Try.prog.godebug = none := by kernel_rfl
theorem manaPays_laidOut : laidOutB Try.prog = true := by kernel_rfl

set_option maxHeartbeats 1000000 in
set_option maxRecDepth 100000 in
theorem manaPays_lifted (os : Os) (started : os.Started) (H : Type) (enc : TypeId × Value → H) :
    ReturnsInHanded {} Try.checked os 3 .any (Rows.manaPaysSpec.pre6 enc Try.prog Try.f3 Rows.manaPaysRow.domain false) (Rows.manaPaysSpec.post enc Try.prog Try.f3 false true false false) := by
  refine returnsInHanded_of_change (C := Try.checked) manaPays_own started (by kernel_rfl) Try.func3
    (ChangeSpec.witness6 (enc := enc) (C := Try.checked) false ⟨#[], #[.agg #[.int .i64 0, .int .i64 0, .int .i64 0, .int .i64 0], .agg #[.int .i64 0, .int .i64 0, .int .i64 0, .int .i64 0]], []⟩ 8 (by kernel_rfl) (by kernel_rfl) (by kernel_rfl) (by kernel_rfl)) ?_
  intro W base args ds gs before hval0 hW hcnd _
  have hval : ∀ (j : Nat) t v, Try.f3.params[j]? = some t → args[j]? = some v → Value.okWide Try.prog W .any base t v := hval0
  have hW' := hW
  obtain ⟨p, q, hA0, hV, rfl, hfz, hnd⟩ := hW
  have hA : DataW.TrodAll enc Try.prog W 0 (fun _ => true) true Try.f3.params.toList args.toList ds p := hA0
  rw [Try.params3] at hA hval
  obtain ⟨v0, vs0, d0, ds0, p0, q0, hargs, rfl, rfl, h0, r0⟩ := trodAll_cons hA
  obtain ⟨v1, vs1, d1, ds1, p1, q1, rfl, rfl, rfl, h1, r1⟩ := trodAll_cons r0
  obtain ⟨rfl, rfl, rfl⟩ := trodAll_nil r1
  obtain rfl : args = #[v0, v1] := by cases args; simp_all
  obtain ⟨rfl, rfl⟩ := trodVars_none hV
  have k0 := h0
  have lt0 : ∀ x ∈ p0, x.block < W.heap.size := by obtain ⟨m, hm⟩ := k0; exact DataW.trod_lt m _ _ _ hm
  obtain ⟨a, b, c, d, rfl, wfa, wfb, wfc, wfd⟩ := open_arr4 Try.underlying23 Try.underlying3 (by kernel_rfl) (by kernel_rfl) (hval 0 23 v0 rfl rfl) h0
  have k1 := h1
  have lt1 : ∀ x ∈ p1, x.block < W.heap.size := by obtain ⟨m, hm⟩ := k1; exact DataW.trod_lt m _ _ _ hm
  obtain ⟨x, y, z, u, rfl, wfx, wfy, wfz, wfu⟩ := open_arr4 Try.underlying23 Try.underlying3 (by kernel_rfl) (by kernel_rfl) (hval 1 23 v1 rfl rfl) h1
  clear hA0 hval0
  refine (manaPays_walk a b c d x y z u W).mono fun e W' ⟨he, bel⟩ => ?_
  subst he
  exact ⟨_, rfl, _, _, _, [], _, [], hW', trodAll_mk1 (shut_bool Try.underlying4 _), (trodAll_cons_mk (Below.trod manaPays_laidOut (by kernel_rfl) (of_decide_eq_true (by kernel_rfl)) k0 bel lt0) (trodAll_cons_mk (Below.trod manaPays_laidOut (by kernel_rfl) (of_decide_eq_true (by kernel_rfl)) k1 bel lt1) trodAll_mk0)), rfl, bel.frame _, fun h => by cases h⟩

theorem manaPays_over : Rows.manaPaysRow.holds Try.pinned (OpenSpec.ofChange Rows.manaPaysSpec) :=
  OpenClaim.holds_of_wide 3 Try.f3 rfl rfl rfl rfl rfl rfl rfl ⟨rfl, rfl, rfl, rfl, rfl⟩ rfl rfl rfl rfl rfl (by kernel_rfl) Try.func3 (by kernel_rfl)
    (of_decide_eq_true (by kernel_rfl)) (by unfold Func.isWrapper; first | (rw [if_pos (by decide +kernel)]; kernel_rfl) | (rw [if_neg (by decide +kernel)]; exact ⟨rfl, rfl⟩))
    (fun os started H enc _ => manaPays_lifted os started H enc)

/-- The statement. -/
theorem manaPays_holds : Rows.ManaPaysSaid := manaPays_over
#print axioms manaPays_holds
end Go.Proofs.Ythbbmkkkjbocaaa
