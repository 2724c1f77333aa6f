/- The walk of mana's Can, and of the statements' own helpers (works, small, sum). No condition. -/
import Derived.Test.YthbbmkkkjbocaaaManaRP
import Derived.Test.YthbbmkkkjbocaaaManaA
import Derived.Test.YthbbmkkkjbocaaaLat
import Derived.Test.YthbbmkkkjbocaaaManaEq
namespace Go.Proofs.Ythbbmkkkjbocaaa
open Go.RowKit

theorem pay_yes (a b c d x y z u : Int) (w : World) (h : can (cl a) (cl b) (cl c) (cl d) (cl x) (cl y) (cl z) (cl u)) : Calls Try.prog 8 #[mana a b c d, mana x y z u] w fun e w' =>
    e = .returned (.tuple #[mana (left0 (cl a) (cl d) (cl x) (cl u)) (left1 (cl a) (cl b) (cl d) (cl x) (cl y) (cl u)) (left2 (cl a) (cl b) (cl c) (cl d) (cl x) (cl y) (cl z) (cl u)) (left3 (cl d) (cl u)), .int .i64 0]) ∧ ∃ u, lat w u = w' :=
  calls_lat ((pay_any a b c d x y z u w).mono fun _ _ ⟨he, hb⟩ => ⟨by rw [he, payV_yes h], hb⟩)
theorem pay_no (a b c d x y z u : Int) (w : World) (h : ¬ can (cl a) (cl b) (cl c) (cl d) (cl x) (cl y) (cl z) (cl u)) : Calls Try.prog 8 #[mana a b c d, mana x y z u] w fun e w' =>
    e = .returned (.tuple #[mana (cl a) (cl b) (cl c) (cl d), .int .i64 13]) ∧ ∃ u, lat w u = w' :=
  calls_lat ((pay_any a b c d x y z u w).mono fun _ _ ⟨he, hb⟩ => ⟨by rw [he, payV_no h], hb⟩)

def canB (a b c d x y z u : Int) : Bool := decide (can (cl a) (cl b) (cl c) (cl d) (cl x) (cl y) (cl z) (cl u))

set_option maxHeartbeats 1000000 in
theorem can_any (a b c d x y z u : Int) (w : World) : Calls Try.prog 10 #[mana a b c d, mana x y z u] w fun e w' => e = .returned (.bool (canB a b c d x y z u)) ∧ Below w.heap.size w w' := by
  by_cases h : can (cl a) (cl b) (cl c) (cl d) (cl x) (cl y) (cl z) (cl u)
  · have hB : canB a b c d x y z u = true := decide_eq_true h
    have Hp := Lib.hid (fun W => pay_yes a b c d x y z u W h)
    clear h
    rw [hB]
    clear hB
    go_enter Try.func10, Try.ntmps10
    go_wp2_with fail
    refine (Hp.out _).mono ?_; rintro e w' ⟨rfl, u1, rfl⟩
    go_wp2_with fail
    go_ret
    refine ⟨rfl, ?_⟩
    repeat (first | exact Below.refl _ _ | refine fb_alloc ?_ _ | refine fb_lat ?_ _ | refine fb_drew ?_ | refine fb_drewN ?_ _)
  · have hB : canB a b c d x y z u = false := decide_eq_false h
    have Hp := Lib.hid (fun W => pay_no a b c d x y z u W h)
    clear h
    rw [hB]
    clear hB
    go_enter Try.func10, Try.ntmps10
    go_wp2_with fail
    refine (Hp.out _).mono ?_; rintro e w' ⟨rfl, u1, rfl⟩
    go_wp2_with fail
    go_ret
    refine ⟨rfl, ?_⟩
    repeat (first | exact Below.refl _ _ | refine fb_alloc ?_ _ | refine fb_lat ?_ _ | refine fb_drew ?_ | refine fb_drewN ?_ _)

/-! The calls of 'works', each at its numbers. -/
theorem w_p1 (w : World) : Calls Try.prog 8 #[mana 2 1 1 1, mana 1 0 0 3] w fun e w' => e = .returned (.tuple #[mana 0 0 1 0, .int .i64 0]) ∧ ∃ u, lat w u = w' := pay_yes 2 1 1 1 1 0 0 3 w (by decide)
theorem w_p2 (w : World) : Calls Try.prog 8 #[mana 1 0 0 0, mana 0 0 0 2] w fun e w' => e = .returned (.tuple #[mana 1 0 0 0, .int .i64 13]) ∧ ∃ u, lat w u = w' := pay_no 1 0 0 0 0 0 0 2 w (by decide)
theorem w_c1 (w : World) : Calls Try.prog 10 #[mana 1 0 0 2, mana 1 0 0 2] w fun e w' => e = .returned (.bool true) ∧ ∃ u, lat w u = w' := calls_lat (can_any 1 0 0 2 1 0 0 2 w)
theorem w_c2 (w : World) : Calls Try.prog 10 #[mana 1 0 0 2, mana 0 1 0 0] w fun e w' => e = .returned (.bool false) ∧ ∃ u, lat w u = w' := calls_lat (can_any 1 0 0 2 0 1 0 0 w)
theorem w_c3 (w : World) : Calls Try.prog 10 #[mana 0 0 0 3, mana 0 0 0 4] w fun e w' => e = .returned (.bool false) ∧ ∃ u, lat w u = w' := calls_lat (can_any 0 0 0 3 0 0 0 4 w)
theorem w_a1 (w : World) : Calls Try.prog 13 #[mana 1 0 0 0, .int .i64 0, .int .i64 2] w fun e w' => e = .returned (mana 3 0 0 0) ∧ ∃ u, lat w u = w' := calls_lat (add_0 1 0 0 0 2 w)
theorem w_a2 (w : World) : Calls Try.prog 13 #[mana 1 0 0 0, .int .i64 0, .int .i64 (-2)] w fun e w' => e = .returned (mana 0 0 0 0) ∧ ∃ u, lat w u = w' := calls_lat (add_0 1 0 0 0 (-2) w)
theorem w_a3 (w : World) : Calls Try.prog 13 #[mana 1 0 0 0, .int .i64 4, .int .i64 1] w fun e w' => e = .returned (mana 1 0 0 0) ∧ ∃ u, lat w u = w' := calls_lat (add_no 1 0 0 0 4 (.inr (by decide)) 1 w)
theorem w_a4 (w : World) : Calls Try.prog 13 #[mana 999 0 0 0, .int .i64 0, .int .i64 1] w fun e w' => e = .returned (mana 999 0 0 0) ∧ ∃ u, lat w u = w' := calls_lat (add_0 999 0 0 0 1 w)

set_option maxHeartbeats 4000000 in
theorem works_any (w : World) : Calls Try.prog 12 #[] w fun e w' => e = .returned (.bool true) ∧ Below w.heap.size w w' := by
  go_enter Try.func12, Try.ntmps12
  go_wp2_with fail
  refine (w_p1 _).mono ?_; rintro e w' ⟨rfl, u1, rfl⟩
  go_wp2_with fail
  refine (w_p2 _).mono ?_; rintro e w' ⟨rfl, u2, rfl⟩
  go_wp2_with fail
  refine (w_c1 _).mono ?_; rintro e w' ⟨rfl, u3, rfl⟩
  go_wp2_with fail
  refine (w_c2 _).mono ?_; rintro e w' ⟨rfl, u4, rfl⟩
  go_wp2_with fail
  refine (w_c3 _).mono ?_; rintro e w' ⟨rfl, u5, rfl⟩
  go_wp2_with fail
  refine (w_a1 _).mono ?_; rintro e w' ⟨rfl, u6, rfl⟩
  go_wp2_with fail
  refine (w_a2 _).mono ?_; rintro e w' ⟨rfl, u7, rfl⟩
  go_wp2_with fail
  refine (w_a3 _).mono ?_; rintro e w' ⟨rfl, u8, rfl⟩
  go_wp2_with fail
  refine (w_a4 _).mono ?_; rintro e w' ⟨rfl, u9, rfl⟩
  go_wp2_with fail
  go_ret
  refine ⟨rfl, ?_⟩
  repeat (first | exact Below.refl _ _ | refine fb_alloc ?_ _ | refine fb_lat ?_ _ | refine fb_drew ?_ | refine fb_drewN ?_ _)

end Go.Proofs.Ythbbmkkkjbocaaa
