/- Walks of a set's And, Or, Minus. -/
import Derived.Test.YtikoabnonmkhkaaDoorBitsB
namespace Go.Proofs.YtikoabnonmkhkaaDoor
open Go.RowKit

theorem quiet_add_same {P : Program} {f : FuncId} {args : Array Value} {w : World} {a n : Nat} {v : Value}
    (h : Calls P f args (w.drewN (a + n)) fun e w' => e = .returned v ∧ w' = w.drewN (a + n)) :
    Calls P f args (w.drewN (a + n)) fun e w'' => e = .returned v ∧ ∃ m, w'' = w.drewN (a + m) :=
  h.mono fun _ _ ⟨he, hm⟩ => ⟨he, n, hm⟩
theorem and1_any (x y : Nat) (w : World) (hx : x < 2 ^ 64) (hy : y < 2 ^ 64) : Calls Tryd.prog 39 #[.int .u64 x, .int .u64 y] w fun e w' => e = .returned (.int .u64 ((x &&& y : Nat) : Int)) ∧ w' = w := by
  have h := u64_and_nat x y (by omega) (by omega)
  go_enter Tryd.func39, Tryd.ntmps39
  go_wp2
  go_ret
  exact ⟨rfl, rfl⟩
set_option maxHeartbeats 2000000 in
set_option maxRecDepth 100000 in
theorem both_and (a b c d a' b' c' d' : Nat) (w : World) (h1 : a < 2 ^ 64) (h2 : b < 2 ^ 64) (h3 : c < 2 ^ 64) (h4 : d < 2 ^ 64) (k1 : a' < 2 ^ 64) (k2 : b' < 2 ^ 64) (k3 : c' < 2 ^ 64) (k4 : d' < 2 ^ 64) :
    Calls Tryd.prog 38 #[sv a b c d, sv a' b' c' d', .func (.func 39) #[] #[]] w fun e w' => e = .returned (sv (a &&& a') (b &&& b') (c &&& c') (d &&& d')) ∧ Below w.heap.size w w' := by
  unfold sv
  go_enter Tryd.func38, Tryd.ntmps38
  go_wp2
  refine wp_loop_rounds 5 ?_
  rw [rounds_succ]
  go_wp2
  refine wp_region_drewN_tail 10 (by kernel_rfl) (by kernel_rfl) ?_
  simp only [List.take_succ_cons, List.take_zero, List.drop_succ_cons, List.drop_zero]
  repeat (go_big_quiet_step ((go_at_call 39; exact Calls.quiet_of_same (and1_any a a' _ h1 k1))))
  refine wpQuiet_nil ?_
  intro _ hw'
  obtain ⟨nq0, hw''⟩ := hw'
  subst hw''
  go_wp2
  rw [rounds_succ]
  go_wp2
  refine wp_region_drewN_tail 10 (by kernel_rfl) (by kernel_rfl) ?_
  simp only [List.take_succ_cons, List.take_zero, List.drop_succ_cons, List.drop_zero]
  repeat (go_big_quiet_step ((go_at_call 39; exact quiet_add_same (and1_any b b' _ h2 k2))))
  refine wpQuiet_nil ?_
  intro _ hw'
  obtain ⟨nq1, hw''⟩ := hw'
  subst hw''
  go_wp2
  rw [rounds_succ]
  go_wp2
  refine wp_region_drewN_tail 10 (by kernel_rfl) (by kernel_rfl) ?_
  simp only [List.take_succ_cons, List.take_zero, List.drop_succ_cons, List.drop_zero]
  repeat (go_big_quiet_step ((go_at_call 39; exact quiet_add_same (and1_any c c' _ h3 k3))))
  refine wpQuiet_nil ?_
  intro _ hw'
  obtain ⟨nq2, hw''⟩ := hw'
  subst hw''
  go_wp2
  rw [rounds_succ]
  go_wp2
  refine wp_region_drewN_tail 10 (by kernel_rfl) (by kernel_rfl) ?_
  simp only [List.take_succ_cons, List.take_zero, List.drop_succ_cons, List.drop_zero]
  repeat (go_big_quiet_step ((go_at_call 39; exact quiet_add_same (and1_any d d' _ h4 k4))))
  refine wpQuiet_nil ?_
  intro _ hw'
  obtain ⟨nq3, hw''⟩ := hw'
  subst hw''
  go_wp2
  rw [rounds_succ]
  go_wp2
  exact bodyPost_ret (by simp [results, Tryd.results38, go_sem]) rfl ⟨rfl, fb_drewN (fb_alloc (fb_alloc (fb_alloc (Below.refl _ w) _) _) _) _⟩
theorem or1_any (x y : Nat) (w : World) (hx : x < 2 ^ 64) (hy : y < 2 ^ 64) : Calls Tryd.prog 40 #[.int .u64 x, .int .u64 y] w fun e w' => e = .returned (.int .u64 ((x ||| y : Nat) : Int)) ∧ w' = w := by
  have h := u64_or_nat x y (by omega) (by omega)
  go_enter Tryd.func40, Tryd.ntmps40
  go_wp2
  go_ret
  exact ⟨rfl, rfl⟩
set_option maxHeartbeats 2000000 in
set_option maxRecDepth 100000 in
theorem both_or (a b c d a' b' c' d' : Nat) (w : World) (h1 : a < 2 ^ 64) (h2 : b < 2 ^ 64) (h3 : c < 2 ^ 64) (h4 : d < 2 ^ 64) (k1 : a' < 2 ^ 64) (k2 : b' < 2 ^ 64) (k3 : c' < 2 ^ 64) (k4 : d' < 2 ^ 64) :
    Calls Tryd.prog 38 #[sv a b c d, sv a' b' c' d', .func (.func 40) #[] #[]] w fun e w' => e = .returned (sv (a ||| a') (b ||| b') (c ||| c') (d ||| d')) ∧ Below w.heap.size w w' := by
  unfold sv
  go_enter Tryd.func38, Tryd.ntmps38
  go_wp2
  refine wp_loop_rounds 5 ?_
  rw [rounds_succ]
  go_wp2
  refine wp_region_drewN_tail 10 (by kernel_rfl) (by kernel_rfl) ?_
  simp only [List.take_succ_cons, List.take_zero, List.drop_succ_cons, List.drop_zero]
  repeat (go_big_quiet_step ((go_at_call 40; exact Calls.quiet_of_same (or1_any a a' _ h1 k1))))
  refine wpQuiet_nil ?_
  intro _ hw'
  obtain ⟨nq0, hw''⟩ := hw'
  subst hw''
  go_wp2
  rw [rounds_succ]
  go_wp2
  refine wp_region_drewN_tail 10 (by kernel_rfl) (by kernel_rfl) ?_
  simp only [List.take_succ_cons, List.take_zero, List.drop_succ_cons, List.drop_zero]
  repeat (go_big_quiet_step ((go_at_call 40; exact quiet_add_same (or1_any b b' _ h2 k2))))
  refine wpQuiet_nil ?_
  intro _ hw'
  obtain ⟨nq1, hw''⟩ := hw'
  subst hw''
  go_wp2
  rw [rounds_succ]
  go_wp2
  refine wp_region_drewN_tail 10 (by kernel_rfl) (by kernel_rfl) ?_
  simp only [List.take_succ_cons, List.take_zero, List.drop_succ_cons, List.drop_zero]
  repeat (go_big_quiet_step ((go_at_call 40; exact quiet_add_same (or1_any c c' _ h3 k3))))
  refine wpQuiet_nil ?_
  intro _ hw'
  obtain ⟨nq2, hw''⟩ := hw'
  subst hw''
  go_wp2
  rw [rounds_succ]
  go_wp2
  refine wp_region_drewN_tail 10 (by kernel_rfl) (by kernel_rfl) ?_
  simp only [List.take_succ_cons, List.take_zero, List.drop_succ_cons, List.drop_zero]
  repeat (go_big_quiet_step ((go_at_call 40; exact quiet_add_same (or1_any d d' _ h4 k4))))
  refine wpQuiet_nil ?_
  intro _ hw'
  obtain ⟨nq3, hw''⟩ := hw'
  subst hw''
  go_wp2
  rw [rounds_succ]
  go_wp2
  exact bodyPost_ret (by simp [results, Tryd.results38, go_sem]) rfl ⟨rfl, fb_drewN (fb_alloc (fb_alloc (fb_alloc (Below.refl _ w) _) _) _) _⟩
theorem minus1_any (x y : Nat) (w : World) (hx : x < 2 ^ 64) (hy : y < 2 ^ 64) : Calls Tryd.prog 41 #[.int .u64 x, .int .u64 y] w fun e w' => e = .returned (.int .u64 ((x &&& notB y : Nat) : Int)) ∧ w' = w := by
  have h := u64_andNot_nat x y (by omega) (by omega)
  go_enter Tryd.func41, Tryd.ntmps41
  go_wp2
  go_ret
  exact ⟨rfl, rfl⟩
set_option maxHeartbeats 2000000 in
set_option maxRecDepth 100000 in
theorem both_minus (a b c d a' b' c' d' : Nat) (w : World) (h1 : a < 2 ^ 64) (h2 : b < 2 ^ 64) (h3 : c < 2 ^ 64) (h4 : d < 2 ^ 64) (k1 : a' < 2 ^ 64) (k2 : b' < 2 ^ 64) (k3 : c' < 2 ^ 64) (k4 : d' < 2 ^ 64) :
    Calls Tryd.prog 38 #[sv a b c d, sv a' b' c' d', .func (.func 41) #[] #[]] w fun e w' => e = .returned (sv (a &&& notB a') (b &&& notB b') (c &&& notB c') (d &&& notB d')) ∧ Below w.heap.size w w' := by
  unfold sv
  go_enter Tryd.func38, Tryd.ntmps38
  go_wp2
  refine wp_loop_rounds 5 ?_
  rw [rounds_succ]
  go_wp2
  refine wp_region_drewN_tail 10 (by kernel_rfl) (by kernel_rfl) ?_
  simp only [List.take_succ_cons, List.take_zero, List.drop_succ_cons, List.drop_zero]
  repeat (go_big_quiet_step ((go_at_call 41; exact Calls.quiet_of_same (minus1_any a a' _ h1 k1))))
  refine wpQuiet_nil ?_
  intro _ hw'
  obtain ⟨nq0, hw''⟩ := hw'
  subst hw''
  go_wp2
  rw [rounds_succ]
  go_wp2
  refine wp_region_drewN_tail 10 (by kernel_rfl) (by kernel_rfl) ?_
  simp only [List.take_succ_cons, List.take_zero, List.drop_succ_cons, List.drop_zero]
  repeat (go_big_quiet_step ((go_at_call 41; exact quiet_add_same (minus1_any b b' _ h2 k2))))
  refine wpQuiet_nil ?_
  intro _ hw'
  obtain ⟨nq1, hw''⟩ := hw'
  subst hw''
  go_wp2
  rw [rounds_succ]
  go_wp2
  refine wp_region_drewN_tail 10 (by kernel_rfl) (by kernel_rfl) ?_
  simp only [List.take_succ_cons, List.take_zero, List.drop_succ_cons, List.drop_zero]
  repeat (go_big_quiet_step ((go_at_call 41; exact quiet_add_same (minus1_any c c' _ h3 k3))))
  refine wpQuiet_nil ?_
  intro _ hw'
  obtain ⟨nq2, hw''⟩ := hw'
  subst hw''
  go_wp2
  rw [rounds_succ]
  go_wp2
  refine wp_region_drewN_tail 10 (by kernel_rfl) (by kernel_rfl) ?_
  simp only [List.take_succ_cons, List.take_zero, List.drop_succ_cons, List.drop_zero]
  repeat (go_big_quiet_step ((go_at_call 41; exact quiet_add_same (minus1_any d d' _ h4 k4))))
  refine wpQuiet_nil ?_
  intro _ hw'
  obtain ⟨nq3, hw''⟩ := hw'
  subst hw''
  go_wp2
  rw [rounds_succ]
  go_wp2
  exact bodyPost_ret (by simp [results, Tryd.results38, go_sem]) rfl ⟨rfl, fb_drewN (fb_alloc (fb_alloc (fb_alloc (Below.refl _ w) _) _) _) _⟩
theorem band_any {S T : List Nat} (hS : wfB S) (hT : wfB T) (w : World) : Calls Tryd.prog 22 #[svL S, svL T] w fun e w' => e = .returned (svL (andB S T)) ∧ Below w.heap.size w w' := by
  have hw := wf_and hS hT
  obtain ⟨a2, b2, c2', d2, hR, _⟩ := wf_form hw
  obtain ⟨a, b, c, d, rfl, h1, h2, h3, h4⟩ := wf_form hS
  obtain ⟨a', b', c', d', rfl, k1, k2, k3, k4⟩ := wf_form hT
  have hc := fun w1 => both_and a b c d a' b' c' d' w1 h1 h2 h3 h4 k1 k2 k3 k4
  rw [hR]
  have hR' := hR
  simp only [andB, List.zipWith_cons_cons, List.zipWith_nil_right, List.cons.injEq, and_true] at hR'
  obtain ⟨r1, r2, r3, r4⟩ := hR'
  rw [r1, r2, r3, r4] at hc
  have HC := Lib.hid hc
  clear hc hw hR r1 r2 r3 r4
  show Calls Tryd.prog 22 #[sv a b c d, sv a' b' c' d'] w fun e w' => e = .returned (sv a2 b2 c2' d2) ∧ Below w.heap.size w w'
  unfold sv at HC ⊢
  go_enter Tryd.func22, Tryd.ntmps22
  go_wp2_with fail
  refine (HC.out _).mono ?_
  rintro e w1 ⟨rfl, hb⟩
  have hA := (Arr.new ((w.alloc (.cells #[.int .u64 a, .int .u64 b, .int .u64 c, .int .u64 d] 24)).alloc (.cells #[.int .u64 a', .int .u64 b', .int .u64 c', .int .u64 d'] 24)) 24 [.int .u64 0, .int .u64 0, .int .u64 0, .int .u64 0]).below hb (by simp)
  rw [World.size_alloc, World.size_alloc] at hA
  have c0 : w1.cell? ⟨w.heap.size + 1 + 1, 0, none⟩ = some (.int .u64 0) := hA.cell 0
  have c1 : w1.cell? ⟨w.heap.size + 1 + 1, 1, none⟩ = some (.int .u64 0) := hA.cell 1
  have c2 : w1.cell? ⟨w.heap.size + 1 + 1, 2, none⟩ = some (.int .u64 0) := hA.cell 2
  have c3 : w1.cell? ⟨w.heap.size + 1 + 1, 3, none⟩ = some (.int .u64 0) := hA.cell 3
  have f0 := hA.frozen 0
  have f1 := hA.frozen 1
  have f2 := hA.frozen 2
  have f3 := hA.frozen 3
  have HB := Lib.hid (fb_call (fb_alloc (fb_alloc (fb_alloc (Below.refl _ w) _) _) _) hb)
  clear hb hA
  go_wp2
  exact bodyPost_ret (by simp [results, Tryd.results22, go_sem, c0, c1, c2, c3]) rfl ⟨rfl, (((HB.out.setCell (by exact Nat.le_succ_of_le (Nat.le_succ _)) _).setCell (by exact Nat.le_succ_of_le (Nat.le_succ _)) _).setCell (by exact Nat.le_succ_of_le (Nat.le_succ _)) _).setCell (by exact Nat.le_succ_of_le (Nat.le_succ _)) _⟩
theorem bor_any {S T : List Nat} (hS : wfB S) (hT : wfB T) (w : World) : Calls Tryd.prog 24 #[svL S, svL T] w fun e w' => e = .returned (svL (orB S T)) ∧ Below w.heap.size w w' := by
  have hw := wf_or hS hT
  obtain ⟨a2, b2, c2', d2, hR, _⟩ := wf_form hw
  obtain ⟨a, b, c, d, rfl, h1, h2, h3, h4⟩ := wf_form hS
  obtain ⟨a', b', c', d', rfl, k1, k2, k3, k4⟩ := wf_form hT
  have hc := fun w1 => both_or a b c d a' b' c' d' w1 h1 h2 h3 h4 k1 k2 k3 k4
  rw [hR]
  have hR' := hR
  simp only [orB, List.zipWith_cons_cons, List.zipWith_nil_right, List.cons.injEq, and_true] at hR'
  obtain ⟨r1, r2, r3, r4⟩ := hR'
  rw [r1, r2, r3, r4] at hc
  have HC := Lib.hid hc
  clear hc hw hR r1 r2 r3 r4
  show Calls Tryd.prog 24 #[sv a b c d, sv a' b' c' d'] w fun e w' => e = .returned (sv a2 b2 c2' d2) ∧ Below w.heap.size w w'
  unfold sv at HC ⊢
  go_enter Tryd.func24, Tryd.ntmps24
  go_wp2_with fail
  refine (HC.out _).mono ?_
  rintro e w1 ⟨rfl, hb⟩
  have hA := (Arr.new ((w.alloc (.cells #[.int .u64 a, .int .u64 b, .int .u64 c, .int .u64 d] 24)).alloc (.cells #[.int .u64 a', .int .u64 b', .int .u64 c', .int .u64 d'] 24)) 24 [.int .u64 0, .int .u64 0, .int .u64 0, .int .u64 0]).below hb (by simp)
  rw [World.size_alloc, World.size_alloc] at hA
  have c0 : w1.cell? ⟨w.heap.size + 1 + 1, 0, none⟩ = some (.int .u64 0) := hA.cell 0
  have c1 : w1.cell? ⟨w.heap.size + 1 + 1, 1, none⟩ = some (.int .u64 0) := hA.cell 1
  have c2 : w1.cell? ⟨w.heap.size + 1 + 1, 2, none⟩ = some (.int .u64 0) := hA.cell 2
  have c3 : w1.cell? ⟨w.heap.size + 1 + 1, 3, none⟩ = some (.int .u64 0) := hA.cell 3
  have f0 := hA.frozen 0
  have f1 := hA.frozen 1
  have f2 := hA.frozen 2
  have f3 := hA.frozen 3
  have HB := Lib.hid (fb_call (fb_alloc (fb_alloc (fb_alloc (Below.refl _ w) _) _) _) hb)
  clear hb hA
  go_wp2
  exact bodyPost_ret (by simp [results, Tryd.results24, go_sem, c0, c1, c2, c3]) rfl ⟨rfl, (((HB.out.setCell (by exact Nat.le_succ_of_le (Nat.le_succ _)) _).setCell (by exact Nat.le_succ_of_le (Nat.le_succ _)) _).setCell (by exact Nat.le_succ_of_le (Nat.le_succ _)) _).setCell (by exact Nat.le_succ_of_le (Nat.le_succ _)) _⟩
theorem bminus_any {S T : List Nat} (hS : wfB S) (hT : wfB T) (w : World) : Calls Tryd.prog 26 #[svL S, svL T] w fun e w' => e = .returned (svL (minusB S T)) ∧ Below w.heap.size w w' := by
  have hw := wf_minus hS hT
  obtain ⟨a2, b2, c2', d2, hR, _⟩ := wf_form hw
  obtain ⟨a, b, c, d, rfl, h1, h2, h3, h4⟩ := wf_form hS
  obtain ⟨a', b', c', d', rfl, k1, k2, k3, k4⟩ := wf_form hT
  have hc := fun w1 => both_minus a b c d a' b' c' d' w1 h1 h2 h3 h4 k1 k2 k3 k4
  rw [hR]
  have hR' := hR
  simp only [minusB, List.zipWith_cons_cons, List.zipWith_nil_right, List.cons.injEq, and_true] at hR'
  obtain ⟨r1, r2, r3, r4⟩ := hR'
  rw [r1, r2, r3, r4] at hc
  have HC := Lib.hid hc
  clear hc hw hR r1 r2 r3 r4
  show Calls Tryd.prog 26 #[sv a b c d, sv a' b' c' d'] w fun e w' => e = .returned (sv a2 b2 c2' d2) ∧ Below w.heap.size w w'
  unfold sv at HC ⊢
  go_enter Tryd.func26, Tryd.ntmps26
  go_wp2_with fail
  refine (HC.out _).mono ?_
  rintro e w1 ⟨rfl, hb⟩
  have hA := (Arr.new ((w.alloc (.cells #[.int .u64 a, .int .u64 b, .int .u64 c, .int .u64 d] 24)).alloc (.cells #[.int .u64 a', .int .u64 b', .int .u64 c', .int .u64 d'] 24)) 24 [.int .u64 0, .int .u64 0, .int .u64 0, .int .u64 0]).below hb (by simp)
  rw [World.size_alloc, World.size_alloc] at hA
  have c0 : w1.cell? ⟨w.heap.size + 1 + 1, 0, none⟩ = some (.int .u64 0) := hA.cell 0
  have c1 : w1.cell? ⟨w.heap.size + 1 + 1, 1, none⟩ = some (.int .u64 0) := hA.cell 1
  have c2 : w1.cell? ⟨w.heap.size + 1 + 1, 2, none⟩ = some (.int .u64 0) := hA.cell 2
  have c3 : w1.cell? ⟨w.heap.size + 1 + 1, 3, none⟩ = some (.int .u64 0) := hA.cell 3
  have f0 := hA.frozen 0
  have f1 := hA.frozen 1
  have f2 := hA.frozen 2
  have f3 := hA.frozen 3
  have HB := Lib.hid (fb_call (fb_alloc (fb_alloc (fb_alloc (Below.refl _ w) _) _) _) hb)
  clear hb hA
  go_wp2
  exact bodyPost_ret (by simp [results, Tryd.results26, go_sem, c0, c1, c2, c3]) rfl ⟨rfl, (((HB.out.setCell (by exact Nat.le_succ_of_le (Nat.le_succ _)) _).setCell (by exact Nat.le_succ_of_le (Nat.le_succ _)) _).setCell (by exact Nat.le_succ_of_le (Nat.le_succ _)) _).setCell (by exact Nat.le_succ_of_le (Nat.le_succ _)) _⟩
end Go.Proofs.YtikoabnonmkhkaaDoor
