/- ManaAdds: mana and more of a colour, as the reference says, for all mana, colours and numbers. No condition. -/
import Derived.Test.YthbbmkkkjbocaaaManaC
import Derived.Test.YthbbmkkkjbocaaaOpen
namespace Go.Proofs.Ythbbmkkkjbocaaa
open Go.ChangeShapes Go.WideShapes Go.ChangeAt Go.RowKit

theorem adds_case (a b c d k n : Int) (r0 r1 r2 r3 : Int) (w : World)
    (h1 : ∀ W, Calls Try.prog 13 #[mana a b c d, .int .i64 k, .int .i64 n] W fun e w' => e = .returned (mana r0 r1 r2 r3) ∧ Below W.heap.size W w')
    (h2 : ∀ W, Calls Try.prog 14 #[mana a b c d, .int .i64 k, .int .i64 n] W fun e w' => e = .returned (mana r0 r1 r2 r3) ∧ Below W.heap.size W w') :
    Calls Try.prog 4 #[mana a b c d, .int .i64 k, .int .i64 n] w fun e w' => e = .returned (.bool true) ∧ Below w.heap.size w w' := by
  have H1 := Lib.hid h1; clear h1
  have H2 := Lib.hid h2; clear h2
  go_enter Try.func4, Try.ntmps4
  go_wp2_with fail
  refine wp_region_lat (by kernel_rfl) (by kernel_rfl) ?_
  repeat (go_big_quiet_step (first | (go_at_call 13; exact quiet_lat (H1.out _)) | (go_at_call 14; exact quiet_lat (H2.out _)) | (go_at_call 12; exact quiet_lat (works_any _))))
  refine wpQuiet_nil ?_
  intro _ hw'
  obtain ⟨nu, hw''⟩ := hw'
  subst hw''
  go_wp2_with fail
  go_ret
  exact ⟨rfl, (by repeat (first | exact Below.refl _ _ | refine fb_alloc ?_ _ | refine fb_lat ?_ _ | refine fb_drew ?_ | refine fb_drewN ?_ _))⟩

theorem manaAdds_walk (a b c d k n : Int) (w : World) : Calls Try.prog 4 #[mana a b c d, .int .i64 k, .int .i64 n] w fun e w' => e = .returned (.bool true) ∧ Below w.heap.size w w' := by
  by_cases h0 : k = 0
  · subst h0; exact adds_case _ _ _ _ _ _ _ _ _ _ w (fun W => add_0 a b c d n W) (fun W => radd_0 a b c d n W)
  by_cases h1 : k = 1
  · subst h1; exact adds_case _ _ _ _ _ _ _ _ _ _ w (fun W => add_1 a b c d n W) (fun W => radd_1 a b c d n W)
  by_cases h2 : k = 2
  · subst h2; exact adds_case _ _ _ _ _ _ _ _ _ _ w (fun W => add_2 a b c d n W) (fun W => radd_2 a b c d n W)
  by_cases h3 : k = 3
  · subst h3; exact adds_case _ _ _ _ _ _ _ _ _ _ w (fun W => add_3 a b c d n W) (fun W => radd_3 a b c d n W)
  exact adds_case _ _ _ _ _ _ _ _ _ _ w (fun W => add_no a b c d k (by omega) n W) (fun W => radd_no a b c d k (by omega) n W)

theorem manaAdds_own : ownKnob Try.prog.godebug = none := by kernel_rfl
theorem manaAdds_laidOut : laidOutB Try.prog = true := by kernel_rfl

set_option maxHeartbeats 1000000 in
set_option maxRecDepth 100000 in
theorem manaAdds_lifted (os : Os) (started : os.Started) (H : Type) (enc : TypeId × Value → H) :
    ReturnsInHanded {} Try.checked os 4 .any (Rows.manaAddsSpec.pre6 enc Try.prog Try.f4 Rows.manaAddsRow.domain false) (Rows.manaAddsSpec.post enc Try.prog Try.f4 false true false false) := by
  refine returnsInHanded_of_change (C := Try.checked) manaAdds_own started (by kernel_rfl) Try.func4
    (ChangeSpec.witness6 (enc := enc) (C := Try.checked) false ⟨#[], #[.agg #[.int .i64 0, .int .i64 0, .int .i64 0, .int .i64 0], .int .i64 0, .int .i64 0], []⟩ 8 (by kernel_rfl) (by kernel_rfl) (by kernel_rfl) (by kernel_rfl)) ?_
  intro W base args ds gs before hval0 hW hcnd _
  have hval : ∀ (j : Nat) t v, Try.f4.params[j]? = some t → args[j]? = some v → Value.okWide Try.prog W .any base t v := hval0
  have hW' := hW
  obtain ⟨p, q, hA0, hV, rfl, hfz, hnd⟩ := hW
  have hA : DataW.TrodAll enc Try.prog W 0 (fun _ => true) true Try.f4.params.toList args.toList ds p := hA0
  rw [Try.params4] at hA hval
  obtain ⟨v0, vs0, d0, ds0, p0, q0, hargs, rfl, rfl, h0, r0⟩ := trodAll_cons hA
  obtain ⟨v1, vs1, d1, ds1, p1, q1, rfl, rfl, rfl, h1, r1⟩ := trodAll_cons r0
  obtain ⟨v2, vs2, d2, ds2, p2, q2, rfl, rfl, rfl, h2, r2⟩ := trodAll_cons r1
  obtain ⟨rfl, rfl, rfl⟩ := trodAll_nil r2
  obtain rfl : args = #[v0, v1, v2] := by cases args; simp_all
  obtain ⟨rfl, rfl⟩ := trodVars_none hV
  have k0 := h0
  have lt0 : ∀ x ∈ p0, x.block < W.heap.size := by obtain ⟨m, hm⟩ := k0; exact DataW.trod_lt m _ _ _ hm
  obtain ⟨a, b, c, d, rfl, wfa, wfb, wfc, wfd⟩ := open_arr4 Try.underlying23 Try.underlying3 (by kernel_rfl) (by kernel_rfl) (hval 0 23 v0 rfl rfl) h0
  have k1 := h1
  have lt1 : ∀ x ∈ p1, x.block < W.heap.size := by obtain ⟨m, hm⟩ := k1; exact DataW.trod_lt m _ _ _ hm
  obtain ⟨x, rfl, ex1, ex2, wfx⟩ := open_int Try.underlying3 (hval 1 3 v1 rfl rfl) h1
  have k2 := h2
  have lt2 : ∀ x ∈ p2, x.block < W.heap.size := by obtain ⟨m, hm⟩ := k2; exact DataW.trod_lt m _ _ _ hm
  obtain ⟨y, rfl, ey1, ey2, wfy⟩ := open_int Try.underlying3 (hval 2 3 v2 rfl rfl) h2
  clear hA0 hval0
  refine (manaAdds_walk a b c d x y W).mono fun e W' ⟨he, bel⟩ => ?_
  subst he
  exact ⟨_, rfl, _, _, _, [], _, [], hW', trodAll_mk1 (shut_bool Try.underlying4 _), (trodAll_cons_mk (Below.trod manaAdds_laidOut (by kernel_rfl) (of_decide_eq_true (by kernel_rfl)) k0 bel lt0) (trodAll_cons_mk (Below.trod manaAdds_laidOut (by kernel_rfl) (of_decide_eq_true (by kernel_rfl)) k1 bel lt1) (trodAll_cons_mk (Below.trod manaAdds_laidOut (by kernel_rfl) (of_decide_eq_true (by kernel_rfl)) k2 bel lt2) trodAll_mk0))), rfl, bel.frame _, fun h => by cases h⟩

theorem manaAdds_over : Rows.manaAddsRow.holds Try.pinned (OpenSpec.ofChange Rows.manaAddsSpec) :=
  OpenClaim.holds_of_wide 4 Try.f4 rfl rfl rfl rfl rfl rfl rfl ⟨rfl, rfl, rfl, rfl, rfl⟩ rfl rfl rfl rfl rfl (by kernel_rfl) Try.func4 (by kernel_rfl)
    (of_decide_eq_true (by kernel_rfl)) (by unfold Func.isWrapper; first | (rw [if_pos (by decide +kernel)]; kernel_rfl) | (rw [if_neg (by decide +kernel)]; exact ⟨rfl, rfl⟩))
    (fun os started H enc _ => manaAdds_lifted os started H enc)

/-- The statement. -/
theorem manaAdds_holds : Rows.ManaAddsSaid := manaAdds_over
#print axioms manaAdds_holds
end Go.Proofs.Ythbbmkkkjbocaaa
