/- IndexKnown: the closed statement on indices. No condition. -/
import Derived.Test.YtcgadmeagbcbnaaDoorIdxKnownW
import Derived.Test.YtcgadmeagbcbnaaDoorIdxTab
import Derived.Test.YtcgadmeagbcbnaaDoorTie
import Derived.Test.YtcgadmeagbcbnaaDoorCards
import Derived.SevenTiedAt
namespace Go.Proofs.YtcgadmeagbcbnaaDoor
open Go.ChangeShapes Go.WideShapes Go.ChangeAt Go.RowKit

theorem indexKnown_own : ownKnob Tryd.prog.godebug = none := by kernel_rfl
theorem indexKnown_laidOut : laidOutB Tryd.prog = true := by kernel_rfl
theorem indexKnown_door (os : Os) (args : Array Value) : laidMetH Tryd.prog Rows.indexKnownRow.laid ((World.doorLaid Tryd.prog 400 os).forCall (fun _ _ => 0) ⟨#[], args, []⟩).memory :=
  laidMetH_of_parts3 (fuel := 8) (laidMet_of_run' 8 (by kernel_rfl) (by kernel_rfl)) (by kernel_rfl) (by kernel_rfl)

set_option maxHeartbeats 1000000 in
set_option maxRecDepth 100000 in
theorem indexKnown_lifted (os : Os) (started : os.Started) (H : Type) (enc : TypeId × Value → H) :
    ReturnsInHanded {} Tryd.checked os 7 .any (fun w args => (Rows.indexKnownSpec.pre enc Tryd.prog Tryd.f7 [] false w args ∧ laidMetH Tryd.prog Rows.indexKnownRow.laid w) ∧ sizedMet enc Tryd.prog Tryd.f7 (OpenSpec.ofChange Rows.indexKnownSpec) false w args)
      (Rows.indexKnownSpec.post enc Tryd.prog Tryd.f7 false true false false) := by
  refine returnsInHanded_of_change_and (C := Tryd.checked) (X := fun w _ => laidMetH Tryd.prog Rows.indexKnownRow.laid w) (fun _ _ _ hh h => h.of_heap hh) indexKnown_own started (by kernel_rfl) Tryd.func7
    (ChangeSpec.witness_shaped (enc := enc) (C := Tryd.checked) (os := os) (X := fun w _ => laidMetH Tryd.prog Rows.indexKnownRow.laid w) false (World.doorLaid Tryd.prog 400 os) #[] 8 rfl (World.shaped_of_RefB (by kernel_rfl) (by kernel_rfl)) (by kernel_rfl) (by kernel_rfl) (by kernel_rfl) (indexKnown_door os _)) ?_
  intro W base args ds gs before hval0 hW _ _ hL _
  have hval : ∀ (j : Nat) t v, Tryd.f7.params[j]? = some t → args[j]? = some v → Value.okWide Tryd.prog W .any base t v := hval0
  have hW' := hW
  obtain ⟨p, q, hA0, hV, rfl, hfz, hnd⟩ := hW
  have hA : DataW.TrodAll enc Tryd.prog W 0 (fun _ => true) true Tryd.f7.params.toList args.toList ds p := hA0
  obtain ⟨hT, h0⟩ := tab_at hL
  rw [Tryd.params7] at hA hval
  obtain ⟨rfl, rfl, rfl⟩ := trodAll_none hA
  obtain ⟨rfl, rfl⟩ := trodVars_none hV
  clear hA0 hval0
  simp only [List.append_nil] at hW'
  refine (indexKnown_walk W hT h0).mono fun e W' ⟨he, bel⟩ => ?_
  subst he
  exact ⟨_, rfl, _, _, _, [], _, [], hW', trodAll_mk1 (shut_bool Tryd.underlying4 _), trodAll_mk0, rfl, bel.frame _, fun h => by cases h⟩

theorem indexKnown_over : Rows.indexKnownRow.holds Tryd.pinned (OpenSpec.ofChange Rows.indexKnownSpec) :=
  OpenClaim.holds_of_wide 7 Tryd.f7 rfl rfl rfl rfl rfl rfl rfl ⟨rfl, rfl, rfl, rfl, rfl⟩ rfl rfl rfl rfl rfl (by kernel_rfl) Tryd.func7 (by kernel_rfl)
    (of_decide_eq_true (by kernel_rfl)) (by unfold Func.isWrapper; first | (rw [if_pos (by decide +kernel)]; kernel_rfl) | (rw [if_neg (by decide +kernel)]; exact ⟨rfl, rfl⟩))
    (fun os started H enc _ => indexKnown_lifted os started H enc)

/-- The statement: the card. -/
theorem indexKnown_holds : Rows.IndexKnownCardSaid :=
  Claim7.holds_tied_plain_at .later [] [.data] true (true, "c08c0475929537c4a01b2b11778c43a327459d9606bd3bdc0458533daab6a0cd") false
    indexKnown_over (fun _ h => by cases h) (by kernel_rfl) (fun _ h => by cases h) indexKnown_row_tie rfl ⟨rfl, rfl⟩ (by kernel_rfl) rfl
    (fun f fn hf hfn => by
      obtain rfl : f = 7 := Option.some.inj ((show Tryd.prog.funcNamed "trefoil/trefoillaw26.IndexKnown" = some 7 by kernel_rfl).symm.trans hf) |>.symm
      obtain rfl : fn = Tryd.f7 := (Option.some.inj (Tryd.func7.symm.trans hfn)).symm
      exact ⟨by kernel_rfl, fun j t ht => by rw [Tryd.params7] at ht; simp at ht⟩)
    (by kernel_rfl)
#print axioms indexKnown_holds
end Go.Proofs.YtcgadmeagbcbnaaDoor
