/- The closed works of the trail laws. No condition. -/
import Derived.Test.YtfkkkndigkchcaaTrailTr
namespace Go.Proofs.Ytfkkkndigkchcaa
open Go.ChangeShapes Go.WideShapes Go.ChangeAt Go.RowKit

set_option maxRecDepth 100000 in
set_option maxHeartbeats 1000000 in
theorem tworks_any (w : World) : Calls Try.prog 32 #[] w fun e w' => e = .returned (.bool true) ∧ Below w.heap.size w w' := by
  go_enter Try.func32, Try.ntmps32
  go_wp2_with fail
  refine (tr_new _).mono ?_
  rintro e w1 ⟨rfl, hn⟩
  obtain ⟨t0, b0⟩ := hn w (Below.refl _ _)
  have Ht := Lib.hid t0
  clear hn t0 b0
  go_wp2_with fail
  refine (tr_alloc Ht.out 2 (by unfold canA; simp) (by simp)).mono ?_
  rintro e w2 ⟨he, hn⟩
  obtain rfl : e = .returned (.int .i64 0) := he
  obtain ⟨O2, t0, o0⟩ := hn.st
  have K0 : TrS w w2 w.heap.size O2 [0, 0] [((-1), 2)] := by exact t0
  clear Ht
  have Ht := Lib.hid K0
  clear hn t0 o0 K0
  go_wp2_with fail
  refine (tr_set Ht.out 1 5 (by simp)).mono ?_
  rintro e w3 ⟨rfl, hn⟩
  obtain ⟨O3, t0, o0⟩ := hn.st
  have K0 : TrS w w3 w.heap.size O3 [0, 5] [((-1), 2), (1, 0)] := by have q := t0; rwa [show setC [0, 0] 1 5 = [0, 5] from by decide, show setH [0, 0] [((-1), 2)] 1 5 = [((-1), 2), (1, 0)] from by decide] at q
  clear Ht
  have Ht := Lib.hid K0
  clear hn t0 o0 K0
  go_wp2_with fail
  refine (tr_mark Ht.out).mono ?_
  rintro e w' ⟨he, rfl⟩
  obtain rfl : e = .returned (.int .i64 2) := he
  go_wp2_with fail
  refine (tr_set Ht.out 1 7 (by simp)).mono ?_
  rintro e w4 ⟨rfl, hn⟩
  obtain ⟨O4, t0, o0⟩ := hn.st
  have K0 : TrS w w4 w.heap.size O4 [0, 7] [((-1), 2), (1, 0), (1, 5)] := by have q := t0; rwa [show setC [0, 5] 1 7 = [0, 7] from by decide, show setH [0, 5] [((-1), 2), (1, 0)] 1 7 = [((-1), 2), (1, 0), (1, 5)] from by decide] at q
  clear Ht
  have Ht := Lib.hid K0
  clear hn t0 o0 K0
  go_wp2_with fail
  refine (tr_get Ht.out 1).mono ?_
  rintro e w' ⟨he, rfl⟩
  rw [show getZ [0, 7] 1 = 7 from by decide] at he
  subst he
  go_wp2_with fail
  refine (tr_back Ht.out 2 (by simp) (by simp)).mono ?_
  rintro e w5 ⟨rfl, hn⟩
  obtain ⟨O5, t0, o0⟩ := hn.st
  have K0 : TrS w w5 w.heap.size O5 [0, 5] [((-1), 2), (1, 0)] := by have q := t0; rw [show was [0, 7] [((-1), 2), (1, 0), (1, 5)] 2 = [0, 5] from by decide] at q; exact q
  clear Ht
  have Ht := Lib.hid K0
  clear hn t0 o0 K0
  go_wp2_with fail
  refine (tr_get Ht.out 1).mono ?_
  rintro e w' ⟨he, rfl⟩
  rw [show getZ [0, 5] 1 = 5 from by decide] at he
  subst he
  go_wp2_with fail
  refine (tr_len Ht.out).mono ?_
  rintro e w' ⟨he, rfl⟩
  obtain rfl : e = .returned (.int .i64 2) := he
  go_wp2
  go_ret
  exact ⟨rfl, Ht.out.bel⟩
end Go.Proofs.Ytfkkkndigkchcaa
