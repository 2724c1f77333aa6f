/- The walks of the reference of package mana, and of the rest of the package. No condition. -/
import Derived.Test.YthbbmkkkjbocaaaMana
namespace Go.Proofs.Ythbbmkkkjbocaaa
open Go.RowKit

set_option maxHeartbeats 1000000 in
theorem rsound_any (a b c d : Int) (w : World) : Calls Try.prog 20 #[mana a b c d] w fun e w' => e = .returned (mana (cl a) (cl b) (cl c) (cl d)) ∧ (w.alloc (bl 23 (cl a) (cl b) (cl c) (cl d))).alloc (bl 23 (cl a) (cl b) (cl c) (cl d)) = w' := by
  have hmx : ∀ n : Int, (if n < 0 then 0 else n) = mx0 n := fun _ => rfl
  have hmn : ∀ n : Int, (if 999 < n then 999 else n) = mn9 n := fun _ => rfl
  have hcl : ∀ n : Int, mn9 (mx0 n) = cl n := mn_mx
  go_enter Try.func20, Try.ntmps20
  go_wp2
  refine wp_loop_rounds 5 ?_
  rw [rounds_succ]
  go_wp2
  rw [rounds_succ]
  go_wp2
  rw [rounds_succ]
  go_wp2
  rw [rounds_succ]
  go_wp2
  rw [rounds_succ]
  go_wp2
  exact bodyPost_ret (v := mana (cl a) (cl b) (cl c) (cl d)) (by simp [results, Try.results20, go_sem]) rfl ⟨rfl, rfl⟩

theorem rsound_at (a' b' c' d' a b c d : Int) (ha : Hid (cl a' = a)) (hb : Hid (cl b' = b)) (hc : Hid (cl c' = c)) (hd : Hid (cl d' = d)) (w : World) : Calls Try.prog 20 #[mana a' b' c' d'] w fun e w' => e = .returned (mana a b c d) ∧ (w.alloc (bl 23 a b c d)).alloc (bl 23 a b c d) = w' := by
  obtain rfl := ha.out; obtain rfl := hb.out; obtain rfl := hc.out; obtain rfl := hd.out
  exact rsound_any _ _ _ _ w

set_option maxHeartbeats 4000000 in
theorem rcan_at (a' b' c' d' x' y' z' u' a b c d x y z u : Int) (ha : Hid (cl a' = a)) (hb : Hid (cl b' = b)) (hc : Hid (cl c' = c)) (hd : Hid (cl d' = d)) (hx : Hid (cl x' = x)) (hy : Hid (cl y' = y)) (hz : Hid (cl z' = z)) (hu : Hid (cl u' = u)) (w : World) :
    Calls Try.prog 11 #[mana a' b' c' d', mana x' y' z' u'] w fun e w' => e = .returned (.bool (decide (can a b c d x y z u))) ∧ ∃ (o1 o2 o3 o4 o5 o6 : Obj) (n : Nat), ((((((w.alloc o1).alloc o2).alloc o3).alloc o4).alloc o5).alloc o6).drewN n = w' := by
  obtain ⟨a0, a1⟩ : 0 ≤ a ∧ a ≤ 999 := by rw [← ha.out]; exact cl_bd _
  obtain ⟨b0, b1⟩ : 0 ≤ b ∧ b ≤ 999 := by rw [← hb.out]; exact cl_bd _
  obtain ⟨c0, c1⟩ : 0 ≤ c ∧ c ≤ 999 := by rw [← hc.out]; exact cl_bd _
  obtain ⟨d0, d1⟩ : 0 ≤ d ∧ d ≤ 999 := by rw [← hd.out]; exact cl_bd _
  obtain ⟨x0, x1⟩ : 0 ≤ x ∧ x ≤ 999 := by rw [← hx.out]; exact cl_bd _
  obtain ⟨y0, y1⟩ : 0 ≤ y ∧ y ≤ 999 := by rw [← hy.out]; exact cl_bd _
  obtain ⟨z0, z1⟩ : 0 ≤ z ∧ z ≤ 999 := by rw [← hz.out]; exact cl_bd _
  obtain ⟨u0, u1⟩ : 0 ≤ u ∧ u ≤ 999 := by rw [← hu.out]; exact cl_bd _
  have hs1 := fun W => rsound_at a' b' c' d' a b c d ha hb hc hd W
  have hs2 := fun W => rsound_at x' y' z' u' x y z u hx hy hz hu W
  have Hs1 := Lib.hid hs1; clear hs1
  have Hs2 := Lib.hid hs2; clear hs2
  go_enter Try.func11, Try.ntmps11
  go_wp2_with fail
  refine (Hs1.out _).mono ?_; rintro e w' ⟨rfl, rfl⟩
  go_wp2_with fail
  refine (Hs2.out _).mono ?_; rintro e w' ⟨rfl, rfl⟩
  go_wp2
  refine wp_loop_rounds 4 ?_
  rw [rounds_succ]
  by_cases h1 : a < x
  · go_wp2
    go_region
    go_wp2
    go_ret
    exact ⟨ret_b (a := false) (decide_eq_false (by unfold can; omega)).symm, _, _, _, _, _, _, 1, rfl⟩
  have h1' : x ≤ a := by omega
  clear h1
  go_wp2
  go_region
  go_wp2
  go_region
  go_wp2
  rw [rounds_succ]
  by_cases h2 : b < y
  · go_wp2
    go_region
    go_wp2
    go_ret
    exact ⟨ret_b (a := false) (decide_eq_false (by unfold can; omega)).symm, _, _, _, _, _, _, 3, rfl⟩
  have h2' : y ≤ b := by omega
  clear h2
  go_wp2
  go_region
  go_wp2
  go_region
  go_wp2
  rw [rounds_succ]
  by_cases h3 : c < z
  · go_wp2
    go_region
    go_wp2
    go_ret
    exact ⟨ret_b (a := false) (decide_eq_false (by unfold can; omega)).symm, _, _, _, _, _, _, 5, rfl⟩
  have h3' : z ≤ c := by omega
  clear h3
  go_wp2
  go_region
  go_wp2
  go_region
  go_wp2
  rw [rounds_succ]
  go_wp2
  go_ret
  refine ⟨ret_b ?_, _, _, _, _, _, _, 6, rfl⟩
  rw [decide_eq_decide]
  unfold can
  constructor <;> intro hh <;> omega
end Go.Proofs.Ythbbmkkkjbocaaa
