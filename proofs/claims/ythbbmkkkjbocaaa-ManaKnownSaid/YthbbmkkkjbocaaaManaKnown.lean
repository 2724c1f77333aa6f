/- ManaKnown: the chapter's examples, limits, numbers below 0. No condition. -/
import Derived.Test.YthbbmkkkjbocaaaManaC
import Derived.Test.YthbbmkkkjbocaaaOpen
namespace Go.Proofs.Ythbbmkkkjbocaaa
open Go.ChangeShapes Go.WideShapes Go.ChangeAt Go.RowKit
theorem k_p0 (w : World) : Calls Try.prog 8 #[mana (-5) 2 0 0, mana 0 0 (-1) 2] w fun e w' => e = .returned (.tuple #[mana 0 0 0 0, .int .i64 0]) ∧ ∃ u, lat w u = w' := pay_yes (-5) 2 0 0 0 0 (-1) 2 w (by decide)
theorem k_p1 (w : World) : Calls Try.prog 8 #[mana 3 3 3 3, mana 0 0 0 7] w fun e w' => e = .returned (.tuple #[mana 0 2 3 0, .int .i64 0]) ∧ ∃ u, lat w u = w' := pay_yes 3 3 3 3 0 0 0 7 w (by decide)
theorem k_p2 (w : World) : Calls Try.prog 8 #[mana 2000 0 0 0, mana 0 0 0 2000] w fun e w' => e = .returned (.tuple #[mana 0 0 0 0, .int .i64 0]) ∧ ∃ u, lat w u = w' := pay_yes 2000 0 0 0 0 0 0 2000 w (by decide)
theorem k_p3 (w : World) : Calls Try.prog 8 #[mana 0 0 0 0, mana 0 0 0 0] w fun e w' => e = .returned (.tuple #[mana 0 0 0 0, .int .i64 0]) ∧ ∃ u, lat w u = w' := pay_yes 0 0 0 0 0 0 0 0 w (by decide)
theorem k_w (w : World) : Calls Try.prog 12 #[] w fun e w' => e = .returned (.bool true) ∧ ∃ u, lat w u = w' := calls_lat (works_any w)
theorem k_a1 (w : World) : Calls Try.prog 13 #[mana 5 0 0 0, .int .i64 0, .int .i64 (-4611686018427387904)] w fun e w' => e = .returned (mana 0 0 0 0) ∧ ∃ u, lat w u = w' := calls_lat (add_0 5 0 0 0 (-4611686018427387904) w)
theorem k_a2 (w : World) : Calls Try.prog 13 #[mana 5 0 0 0, .int .i64 3, .int .i64 4611686018427387904] w fun e w' => e = .returned (mana 5 0 0 999) ∧ ∃ u, lat w u = w' := calls_lat (add_3 5 0 0 0 4611686018427387904 w)
theorem k_a3 (w : World) : Calls Try.prog 13 #[mana (-7) 0 0 0, .int .i64 (-1), .int .i64 1] w fun e w' => e = .returned (mana 0 0 0 0) ∧ ∃ u, lat w u = w' := calls_lat (add_no (-7) 0 0 0 (-1) (.inl (by decide)) 1 w)
theorem k_c (w : World) : Calls Try.prog 10 #[mana 998 0 0 0, mana 0 0 0 999] w fun e w' => e = .returned (.bool false) ∧ ∃ u, lat w u = w' := calls_lat (can_any 998 0 0 0 0 0 0 999 w)

set_option maxHeartbeats 4000000 in
theorem manaKnown_walk (w : World) : Calls Try.prog 7 #[] w fun e w' => e = .returned (.bool true) ∧ Below w.heap.size w w' := by
  go_enter Try.func7, Try.ntmps7
  go_wp2_with fail
  refine (k_p0 _).mono ?_; rintro e w' ⟨rfl, u0, rfl⟩
  go_wp2_with fail
  refine (k_p1 _).mono ?_; rintro e w' ⟨rfl, u1, rfl⟩
  go_wp2_with fail
  refine (k_p2 _).mono ?_; rintro e w' ⟨rfl, u2, rfl⟩
  go_wp2_with fail
  refine (k_p3 _).mono ?_; rintro e w' ⟨rfl, u3, rfl⟩
  go_wp2_with fail
  refine (k_w _).mono ?_; rintro e w' ⟨rfl, u4, rfl⟩
  go_wp2_with fail
  refine (k_a1 _).mono ?_; rintro e w' ⟨rfl, u5, rfl⟩
  go_wp2_with fail
  refine (k_a2 _).mono ?_; rintro e w' ⟨rfl, u6, rfl⟩
  go_wp2_with fail
  refine (k_a3 _).mono ?_; rintro e w' ⟨rfl, u7, rfl⟩
  go_wp2_with fail
  refine (k_c _).mono ?_; rintro e w' ⟨rfl, u8, rfl⟩
  go_wp2_with fail
  go_ret
  exact ⟨rfl, (by repeat (first | exact Below.refl _ _ | refine fb_alloc ?_ _ | refine fb_lat ?_ _ | refine fb_drew ?_ | refine fb_drewN ?_ _))⟩

theorem manaKnown_own : ownKnob Try.prog.godebug = none := by kernel_rfl
theorem manaKnown_laidOut : laidOutB Try.prog = true := by kernel_rfl

set_option maxHeartbeats 1000000 in
set_option maxRecDepth 100000 in
theorem manaKnown_lifted (os : Os) (started : os.Started) (H : Type) (enc : TypeId × Value → H) :
    ReturnsInHanded {} Try.checked os 7 .any (Rows.manaKnownSpec.pre6 enc Try.prog Try.f7 Rows.manaKnownRow.domain false) (Rows.manaKnownSpec.post enc Try.prog Try.f7 false true false false) := by
  refine returnsInHanded_of_change (C := Try.checked) manaKnown_own started (by kernel_rfl) Try.func7
    (ChangeSpec.witness6 (enc := enc) (C := Try.checked) false ⟨#[], #[], []⟩ 8 (by kernel_rfl) (by kernel_rfl) (by kernel_rfl) (by kernel_rfl)) ?_
  intro W base args ds gs before hval0 hW hcnd _
  have hval : ∀ (j : Nat) t v, Try.f7.params[j]? = some t → args[j]? = some v → Value.okWide Try.prog W .any base t v := hval0
  have hW' := hW
  obtain ⟨p, q, hA0, hV, rfl, hfz, hnd⟩ := hW
  have hA : DataW.TrodAll enc Try.prog W 0 (fun _ => true) true Try.f7.params.toList args.toList ds p := hA0
  rw [Try.params7] at hA hval
  obtain ⟨hargs, rfl, rfl⟩ := trodAll_nil hA
  obtain rfl : args = #[] := by cases args; simp_all
  obtain ⟨rfl, rfl⟩ := trodVars_none hV
  clear hA0 hval0
  refine (manaKnown_walk W).mono fun e W' ⟨he, bel⟩ => ?_
  subst he
  exact ⟨_, rfl, _, _, _, [], _, [], hW', trodAll_mk1 (shut_bool Try.underlying4 _), trodAll_mk0, rfl, bel.frame _, fun h => by cases h⟩

theorem manaKnown_over : Rows.manaKnownRow.holds Try.pinned (OpenSpec.ofChange Rows.manaKnownSpec) :=
  OpenClaim.holds_of_wide 7 Try.f7 rfl rfl rfl rfl rfl rfl rfl ⟨rfl, rfl, rfl, rfl, rfl⟩ rfl rfl rfl rfl rfl (by kernel_rfl) Try.func7 (by kernel_rfl)
    (of_decide_eq_true (by kernel_rfl)) (by unfold Func.isWrapper; first | (rw [if_pos (by decide +kernel)]; kernel_rfl) | (rw [if_neg (by decide +kernel)]; exact ⟨rfl, rfl⟩))
    (fun os started H enc _ => manaKnown_lifted os started H enc)

/-- The statement. -/
theorem manaKnown_holds : Rows.ManaKnownSaid := manaKnown_over
#print axioms manaKnown_holds
end Go.Proofs.Ythbbmkkkjbocaaa
