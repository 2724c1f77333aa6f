/- The walks of package mana, and of its reference: each function once. No condition. -/
import Derived.Test.YthbbmkkkjbocaaaBase
import Derived.Test.YthbbmkkkjbocaaaManaPlain
namespace Go.Proofs.Ythbbmkkkjbocaaa
open Go.RowKit

theorem within_any (n : Int) (w : World) : Calls Try.prog 21 #[.int .i64 n] w fun e w' => e = .returned (.int .i64 (cl n)) ∧ w = w' := by
  go_enter Try.func21, Try.ntmps21
  go_wp2
  all_goals go_ret
  all_goals (refine ⟨?_, rfl⟩; simp only [cl]; (repeat' split) <;> first | rfl | omega)

set_option maxHeartbeats 1000000 in
theorem sound_any (a b c d : Int) (w : World) : Calls Try.prog 17 #[mana a b c d] w fun e w' => e = .returned (mana (cl a) (cl b) (cl c) (cl d)) ∧ (w.alloc (bl 23 (cl a) (cl b) (cl c) (cl d))).alloc (bl 23 (cl a) (cl b) (cl c) (cl d)) = w' := by
  go_enter Try.func17, Try.ntmps17
  go_wp2
  refine wp_loop_rounds 5 ?_
  rw [rounds_succ]
  go_wp2_with (go_at_call 21; refine (within_any _ _).mono ?_; rintro e w' ⟨rfl, rfl⟩)
  rw [rounds_succ]
  go_wp2_with (go_at_call 21; refine (within_any _ _).mono ?_; rintro e w' ⟨rfl, rfl⟩)
  rw [rounds_succ]
  go_wp2_with (go_at_call 21; refine (within_any _ _).mono ?_; rintro e w' ⟨rfl, rfl⟩)
  rw [rounds_succ]
  go_wp2_with (go_at_call 21; refine (within_any _ _).mono ?_; rintro e w' ⟨rfl, rfl⟩)
  rw [rounds_succ]
  go_wp2_with (go_at_call 21; refine (within_any _ _).mono ?_; rintro e w' ⟨rfl, rfl⟩)
  exact bodyPost_ret (v := mana (cl a) (cl b) (cl c) (cl d)) (by simp [results, Try.results17, go_sem]) rfl ⟨rfl, rfl⟩

theorem sound_at (a' b' c' d' a b c d : Int) (ha : Hid (cl a' = a)) (hb : Hid (cl b' = b)) (hc : Hid (cl c' = c)) (hd : Hid (cl d' = d)) (w : World) : Calls Try.prog 17 #[mana a' b' c' d'] w fun e w' => e = .returned (mana a b c d) ∧ (w.alloc (bl 23 a b c d)).alloc (bl 23 a b c d) = w' := by
  obtain rfl := ha.out; obtain rfl := hb.out; obtain rfl := hc.out; obtain rfl := hd.out
  exact sound_any _ _ _ _ w

theorem closure_any (c : Int) (g : Nat) (v : Int) (hc0 : 0 ≤ c) (hc : c < 4) (w : World) (hv : w.cell? ⟨g, c.toNat, none⟩ = some (.int .i64 v)) :
    Calls Try.prog 19 #[.int .i64 c, .pointer (some ⟨g, 0, none⟩)] w fun e w' => e = .returned (.int .i64 v) ∧ w = w' := by
  go_enter Try.func19, Try.ntmps19
  go_wp2
  go_ret
  exact ⟨rfl, rfl⟩

set_option maxHeartbeats 2000000 in
theorem total_any (g o : Nat) (a b c d : Int) (w : World) (h0 : w.cell? ⟨g, 0, none⟩ = some (.int .i64 a)) (h1 : w.cell? ⟨g, 1, none⟩ = some (.int .i64 b)) (h2 : w.cell? ⟨g, 2, none⟩ = some (.int .i64 c)) (h3 : w.cell? ⟨g, 3, none⟩ = some (.int .i64 d))
   (o0 : w.cell? ⟨o, 0, none⟩ = some (.int .i64 3)) (o1 : w.cell? ⟨o, 1, none⟩ = some (.int .i64 0)) (o2 : w.cell? ⟨o, 2, none⟩ = some (.int .i64 1)) (o3 : w.cell? ⟨o, 3, none⟩ = some (.int .i64 2))
   (a0 : 0 ≤ a) (a1 : a ≤ 999) (b0 : 0 ≤ b) (b1 : b ≤ 999) (c0 : 0 ≤ c) (c1 : c ≤ 999) (d0 : 0 ≤ d) (d1 : d ≤ 999) :
    Calls Try.prog 18 #[.func (.func 19) #[] #[.pointer (some ⟨g, 0, none⟩)], .slice (some ⟨o, 0, none⟩) 4 4] w fun e w' => e = .returned (.int .i64 (d + a + b + c)) ∧ w = w' := by
  go_enter Try.func18, Try.ntmps18
  go_wp2
  refine wp_loop_rounds 5 ?_
  rw [rounds_succ]
  go_wp2
  rw [rounds_succ]
  go_wp2
  rw [rounds_succ]
  go_wp2
  rw [rounds_succ]
  go_wp2
  rw [rounds_succ]
  go_wp2
  go_ret
  exact ⟨rfl, rfl⟩

set_option maxHeartbeats 4000000 in
theorem pay_at (a' b' c' d' x' y' z' u' a b c d x y z u : Int) (ha : Hid (cl a' = a)) (hb : Hid (cl b' = b)) (hc : Hid (cl c' = c)) (hd : Hid (cl d' = d)) (hx : Hid (cl x' = x)) (hy : Hid (cl y' = y)) (hz : Hid (cl z' = z)) (hu : Hid (cl u' = u)) (w : World) :
    Calls Try.prog 8 #[mana a' b' c' d', mana x' y' z' u'] w fun e w' => e = .returned (payV a b c d x y z u) ∧ Below w.heap.size w w' := by
  go_enter Try.func8, Try.ntmps8
  go_upto_region 1 with fail
  go_cut [12, 13, 14, 15] (fun _ _ _ _ wx => ∃ o1 o2 o3 o4 : Obj, wx = (((((((w.alloc (bl 23 a b c d)).alloc (bl 23 x y z u)).alloc (bl 23 0 0 0 0)).alloc o1).alloc o2).alloc o3).alloc o4).drew)
  case first =>
    go_region_with (go_at_call 17; first | ((with_reducible refine (sound_at a' b' c' d' a b c d ha hb hc hd _).mono ?_); rintro e w' ⟨rfl, rfl⟩) | ((with_reducible refine (sound_at x' y' z' u' x y z u hx hy hz hu _).mono ?_); rintro e w' ⟨rfl, rfl⟩))
    all_goals (go_wp2_with fail)
    all_goals go_meet
    all_goals exact ⟨_, _, _, _, rfl⟩
  case rest =>
    obtain ⟨o1, o2, o3, o4, rfl⟩ := hcut
    obtain ⟨a0, a1⟩ : 0 ≤ a ∧ a ≤ 999 := by rw [← ha.out]; exact cl_bd _
    obtain ⟨b0, b1⟩ : 0 ≤ b ∧ b ≤ 999 := by rw [← hb.out]; exact cl_bd _
    obtain ⟨c0, c1⟩ : 0 ≤ c ∧ c ≤ 999 := by rw [← hc.out]; exact cl_bd _
    obtain ⟨d0, d1⟩ : 0 ≤ d ∧ d ≤ 999 := by rw [← hd.out]; exact cl_bd _
    obtain ⟨x0, x1⟩ : 0 ≤ x ∧ x ≤ 999 := by rw [← hx.out]; exact cl_bd _
    obtain ⟨y0, y1⟩ : 0 ≤ y ∧ y ≤ 999 := by rw [← hy.out]; exact cl_bd _
    obtain ⟨z0, z1⟩ : 0 ≤ z ∧ z ≤ 999 := by rw [← hz.out]; exact cl_bd _
    obtain ⟨u0, u1⟩ : 0 ≤ u ∧ u ≤ 999 := by rw [← hu.out]; exact cl_bd _
    go_wp2
    refine wp_loop_rounds 4 ?_
    rw [rounds_succ]
    by_cases h1 : a - x < 0
    · go_wp2
      go_region
      go_wp2
      refine bodyPost_ret (v := .tuple #[mana a b c d, .int .i64 13]) (by simp [results, Try.results8, go_sem]) rfl ⟨by rw [payV_no (by unfold can; omega)], ?_⟩
      go_grown
    have h1' : 0 ≤ a - x := by omega
    clear h1
    go_wp2
    go_region
    go_wp2
    rw [rounds_succ]
    by_cases h2 : b - y < 0
    · go_wp2
      go_region
      go_wp2
      refine bodyPost_ret (v := .tuple #[mana a b c d, .int .i64 13]) (by simp [results, Try.results8, go_sem]) rfl ⟨by rw [payV_no (by unfold can; omega)], ?_⟩
      go_grown
    have h2' : 0 ≤ b - y := by omega
    clear h2
    go_wp2
    go_region
    go_wp2
    rw [rounds_succ]
    by_cases h3 : c - z < 0
    · go_wp2
      go_region
      go_wp2
      refine bodyPost_ret (v := .tuple #[mana a b c d, .int .i64 13]) (by simp [results, Try.results8, go_sem]) rfl ⟨by rw [payV_no (by unfold can; omega)], ?_⟩
      go_grown
    have h3' : 0 ≤ c - z := by omega
    clear h3
    go_wp2
    go_region
    go_wp2
    rw [rounds_succ]
    go_wp2
    go_quiet ((go_at_call 18; exact quiet_w (total_any _ _ (a - x) (b - y) (c - z) d _ (by simp [go_sem]) (by simp [go_sem]) (by simp [go_sem]) (by simp [go_sem]) (by simp [go_sem]) (by simp [go_sem]) (by simp [go_sem]) (by simp [go_sem]) (by omega) (by omega) (by omega) (by omega) (by omega) (by omega) (by omega) (by omega)) ⟨_, rfl⟩))
    by_cases h4 : d + (a - x) + (b - y) + (c - z) < u
    · go_wp2
      refine bodyPost_ret (v := .tuple #[mana a b c d, .int .i64 13]) (by simp [results, Try.results8, go_sem]) rfl ⟨by rw [payV_no (by unfold can; omega)], bel_drewN ?_ _⟩
      go_grown
    have h4' : u ≤ d + (a - x) + (b - y) + (c - z) := by omega
    clear h4
    have ix0 : ∀ w : World, (Instr.index 22 (.agg #[.int .i64 3, .int .i64 0, .int .i64 1, .int .i64 2]) (.int .i64 0)).run Try.prog w = .ok (.int .i64 3) w := fun _ => by kernel_rfl
    have ix1 : ∀ w : World, (Instr.index 22 (.agg #[.int .i64 3, .int .i64 0, .int .i64 1, .int .i64 2]) (.int .i64 1)).run Try.prog w = .ok (.int .i64 0) w := fun _ => by kernel_rfl
    have ix2 : ∀ w : World, (Instr.index 22 (.agg #[.int .i64 3, .int .i64 0, .int .i64 1, .int .i64 2]) (.int .i64 2)).run Try.prog w = .ok (.int .i64 1) w := fun _ => by kernel_rfl
    have ix3 : ∀ w : World, (Instr.index 22 (.agg #[.int .i64 3, .int .i64 0, .int .i64 1, .int .i64 2]) (.int .i64 3)).run Try.prog w = .ok (.int .i64 2) w := fun _ => by kernel_rfl
    have himin : ∀ x y : Int, (if y < x then y else x) = imin x y := fun _ _ => rfl
    have i1 := imin_bd d u d0 u0
    have i2 := imin_bd (a - x) (u - imin d u) h1' (by omega)
    have i3 := imin_bd (b - y) (u - imin d u - imin (a - x) (u - imin d u)) h2' (by omega)
    have i4 := imin_bd (c - z) (u - imin d u - imin (a - x) (u - imin d u) - imin (b - y) (u - imin d u - imin (a - x) (u - imin d u))) h3' (by omega)
    obtain ⟨i10, i11, i12⟩ := i1
    obtain ⟨i20, i21, i22⟩ := i2
    obtain ⟨i30, i31, i32⟩ := i3
    obtain ⟨i40, i41, i42⟩ := i4
    go_wp2
    refine wp_loop_rounds 5 ?_
    rw [rounds_succ]
    go_wp2
    go_region
    go_wp2
    rw [rounds_succ]
    go_wp2
    go_region
    go_wp2
    rw [rounds_succ]
    go_wp2
    go_region
    go_wp2
    rw [rounds_succ]
    go_wp2
    go_region
    go_wp2
    rw [rounds_succ]
    go_wp2
    refine bodyPost_ret (v := .tuple #[mana (left0 a d x u) (left1 a b d x y u) (left2 a b c d x y z u) (left3 d u), .int .i64 0]) (by simp [results, Try.results8, go_sem, left0, left1, left2, left3]) rfl ⟨by rw [payV_yes (by unfold can; omega)], bel_drewN ?_ _⟩
    go_grown
theorem pay_any (a b c d x y z u : Int) (w : World) : Calls Try.prog 8 #[mana a b c d, mana x y z u] w fun e w' => e = .returned (payV (cl a) (cl b) (cl c) (cl d) (cl x) (cl y) (cl z) (cl u)) ∧ Below w.heap.size w w' :=
  pay_at _ _ _ _ _ _ _ _ _ _ _ _ _ _ _ _ (Lib.hid rfl) (Lib.hid rfl) (Lib.hid rfl) (Lib.hid rfl) (Lib.hid rfl) (Lib.hid rfl) (Lib.hid rfl) (Lib.hid rfl) w
end Go.Proofs.Ythbbmkkkjbocaaa
