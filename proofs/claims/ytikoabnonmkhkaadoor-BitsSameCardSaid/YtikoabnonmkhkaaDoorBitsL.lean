/- A set's Len. -/
import Derived.Test.YtikoabnonmkhkaaDoorBitsK
namespace Go.Proofs.YtikoabnonmkhkaaDoor
open Go.RowKit
attribute [local irreducible] bsum

set_option maxRecDepth 100000 in
set_option maxHeartbeats 1000000 in
theorem blen_any {S : List Nat} (h : wfB S) (w : World) : Calls Tryd.prog 16 #[svL S] w fun e w' => e = .returned (.int .i64 ((lst S).length : Nat)) ∧ Below w.heap.size w w' := by
  obtain ⟨a, b, c, d, rfl, h1, h2, h3, h4⟩ := wf_form h
  show Calls Tryd.prog 16 #[sv a b c d] w _
  unfold sv
  have hl := lst_length a b c d
  have l1 := bsum_le a 64
  have l2 := bsum_le b 64
  have l3 := bsum_le c 64
  have l4 := bsum_le d 64
  have O := Lib.hid (ones_any a h1)
  have O2 := Lib.hid (ones_any b h2)
  have O3 := Lib.hid (ones_any c h3)
  have O4 := Lib.hid (ones_any d h4)
  obtain ⟨p, hp⟩ : ∃ p, bsum a 64 = p := ⟨_, rfl⟩
  obtain ⟨q, hq⟩ : ∃ p, bsum b 64 = p := ⟨_, rfl⟩
  obtain ⟨r, hr⟩ : ∃ p, bsum c 64 = p := ⟨_, rfl⟩
  obtain ⟨s, hs⟩ : ∃ p, bsum d 64 = p := ⟨_, rfl⟩
  rw [hp] at O l1 hl
  rw [hq] at O2 l2 hl
  rw [hr] at O3 l3 hl
  rw [hs] at O4 l4 hl
  clear h h1 h2 h3 h4 hp hq hr hs
  have ix0 : ∀ w : World, (Instr.index 24 (.agg #[.int .u64 a, .int .u64 b, .int .u64 c, .int .u64 d]) (.int .i64 0)).run Tryd.prog w = .ok (.int .u64 a) w := fun _ => by kernel_rfl
  have ix1 : ∀ w : World, (Instr.index 24 (.agg #[.int .u64 a, .int .u64 b, .int .u64 c, .int .u64 d]) (.int .i64 1)).run Tryd.prog w = .ok (.int .u64 b) w := fun _ => by kernel_rfl
  have ix2 : ∀ w : World, (Instr.index 24 (.agg #[.int .u64 a, .int .u64 b, .int .u64 c, .int .u64 d]) (.int .i64 2)).run Tryd.prog w = .ok (.int .u64 c) w := fun _ => by kernel_rfl
  have ix3 : ∀ w : World, (Instr.index 24 (.agg #[.int .u64 a, .int .u64 b, .int .u64 c, .int .u64 d]) (.int .i64 3)).run Tryd.prog w = .ok (.int .u64 d) w := fun _ => by kernel_rfl
  go_enter Tryd.func16, Tryd.ntmps16
  go_wp2
  refine wp_loop_rounds 5 ?_
  rw [rounds_succ]
  go_wp2_with (go_at_call 34; refine (O.out _).mono ?_; rintro e w' ⟨rfl, rfl⟩)
  rw [rounds_succ]
  go_wp2_with (go_at_call 34; refine (O2.out _).mono ?_; rintro e w' ⟨rfl, rfl⟩)
  rw [rounds_succ]
  go_wp2_with (go_at_call 34; refine (O3.out _).mono ?_; rintro e w' ⟨rfl, rfl⟩)
  rw [rounds_succ]
  go_wp2_with (go_at_call 34; refine (O4.out _).mono ?_; rintro e w' ⟨rfl, rfl⟩)
  rw [rounds_succ]
  go_wp2
  go_ret
  exact ⟨by rw [hl]; simp, fb_alloc (Below.refl _ _) _⟩
end Go.Proofs.YtikoabnonmkhkaaDoor
