/- ZoneKnows: each slot is in one list at most; Where tells where, At what stands there; behind a Back all is as it was. No condition. -/
import Derived.Test.YtfkkkndigkchcaaTrailV
import Derived.Test.YtfkkkndigkchcaaZoneKnowsW
namespace Go.Proofs.Ytfkkkndigkchcaa
open Go.ChangeShapes Go.WideShapes Go.ChangeAt Go.RowKit

theorem zoneKnows_own : ownKnob Try.prog.godebug = none := by kernel_rfl
theorem zoneKnows_laidOut : laidOutB Try.prog = true := by kernel_rfl

set_option maxHeartbeats 1000000 in
set_option maxRecDepth 100000 in
theorem zoneKnows_lifted (os : Os) (started : os.Started) (H : Type) (enc : TypeId × Value → H) :
    ReturnsInHanded {} Try.checked os 16 .any (Rows.zoneKnowsSpec.pre6 enc Try.prog Try.f16 Rows.zoneKnowsRow.domain false) (Rows.zoneKnowsSpec.post enc Try.prog Try.f16 false true false false) := by
  refine returnsInHanded_of_change (C := Try.checked) zoneKnows_own started (by kernel_rfl) Try.func16
    (ChangeSpec.witness6 (enc := enc) (C := Try.checked) false ⟨#[], #[.slice none 0 0], []⟩ 8 (by kernel_rfl) (by kernel_rfl) (by kernel_rfl) (by kernel_rfl)) ?_
  intro W base args ds gs before hval0 hW hcnd _
  have hval : ∀ (j : Nat) t v, Try.f16.params[j]? = some t → args[j]? = some v → Value.okWide Try.prog W .any base t v := hval0
  have hW' := hW
  obtain ⟨p, q, hA0, hV, rfl, hfz, hnd⟩ := hW
  have hA : DataW.TrodAll enc Try.prog W 0 (fun _ => true) true Try.f16.params.toList args.toList ds p := hA0
  rw [Try.params16] at hA hval
  obtain ⟨v0, vs0, d0, ds0, p0, q0, hargs, rfl, rfl, h0, r0⟩ := trodAll_cons hA
  obtain ⟨rfl, rfl, rfl⟩ := trodAll_nil r0
  obtain rfl : args = #[v0] := by cases args; simp_all
  obtain ⟨rfl, rfl⟩ := trodVars_none hV
  have k0 := h0
  have lt0 : ∀ x ∈ p0, x.block < W.heap.size := by obtain ⟨m, hm⟩ := k0; exact DataW.trod_lt m _ _ _ hm
  obtain ⟨a, n, c, F, rfl, hln, hmn, hrn⟩ := open_rows Try.underlying77 Try.underlying79 Try.underlying5 (by kernel_rfl) (by kernel_rfl) (by decide) (hval 0 77 v0 rfl rfl) h0
  clear hA0 hval0
  refine (zoneKnows_walk a n c F W hrn hln (by have := hmn; unfold maxLen at this; omega)).mono fun e W' ⟨he, bel⟩ => ?_
  subst he
  exact ⟨_, rfl, _, _, _, [], _, [], hW', trodAll_mk1 (shut_bool Try.underlying4 _), (trodAll_cons_mk (Below.trod zoneKnows_laidOut (by kernel_rfl) (of_decide_eq_true (by kernel_rfl)) k0 bel lt0) trodAll_mk0), rfl, bel.frame _, fun h => by cases h⟩

theorem zoneKnows_over : Rows.zoneKnowsRow.holds Try.pinned (OpenSpec.ofChange Rows.zoneKnowsSpec) :=
  OpenClaim.holds_of_wide 16 Try.f16 rfl rfl rfl rfl rfl rfl rfl ⟨rfl, rfl, rfl, rfl, rfl⟩ rfl rfl rfl rfl rfl (by kernel_rfl) Try.func16 (by kernel_rfl)
    (of_decide_eq_true (by kernel_rfl)) (by unfold Func.isWrapper; first | (rw [if_pos (by decide +kernel)]; kernel_rfl) | (rw [if_neg (by decide +kernel)]; exact ⟨rfl, rfl⟩))
    (fun os started H enc _ => zoneKnows_lifted os started H enc)

/-- The statement. -/
theorem zoneKnows_holds : Rows.ZoneKnowsSaid := zoneKnows_over
#print axioms zoneKnows_holds
end Go.Proofs.Ytfkkkndigkchcaa
