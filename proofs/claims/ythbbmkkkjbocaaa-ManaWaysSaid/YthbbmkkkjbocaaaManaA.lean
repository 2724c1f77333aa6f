/- The walks of Add, of package mana and of its reference: a theorem a colour. No condition. -/
import Derived.Test.YthbbmkkkjbocaaaManaR
namespace Go.Proofs.Ythbbmkkkjbocaaa
open Go.RowKit

def mxm (n : Int) : Int := if n < -999 then -999 else n
/-- What is added: from -999 to 999. -/
theorem sm_bd (n : Int) : -999 ≤ mn9 (mxm n) ∧ mn9 (mxm n) ≤ 999 := by unfold mn9 mxm; (repeat' split) <;> omega
def ad (a n : Int) : Int := cl (a + mn9 (mxm n))

set_option maxHeartbeats 1000000 in
theorem add_0 (a b c d : Int) (n : Int) (w : World) : Calls Try.prog 13 #[mana a b c d, .int .i64 0, .int .i64 n] w fun e w' => e = .returned (mana (ad (cl a) n) (cl b) (cl c) (cl d)) ∧ Below w.heap.size w w' := by
  have Hs := Lib.hid (fun W => sound_any a b c d W)
  obtain ⟨a0, a1⟩ := cl_bd a
  obtain ⟨b0, b1⟩ := cl_bd b
  obtain ⟨c0, c1⟩ := cl_bd c
  obtain ⟨d0, d1⟩ := cl_bd d
  have n0 := sm_bd n
  obtain ⟨n0, n1⟩ := n0
  have hmm : ∀ n : Int, (if n < -999 then -999 else n) = mxm n := fun _ => rfl
  have hmx : ∀ n : Int, (if n < 0 then 0 else n) = mx0 n := fun _ => rfl
  have hmn : ∀ n : Int, (if 999 < n then 999 else n) = mn9 n := fun _ => rfl
  have hcl : ∀ n : Int, mn9 (mx0 n) = cl n := mn_mx
  go_enter Try.func13, Try.ntmps13
  go_wp2_with fail
  refine (Hs.out _).mono ?_; rintro e w' ⟨rfl, rfl⟩
  go_wp2_with fail
  refine (within_any _ _).mono ?_; rintro e w' ⟨rfl, rfl⟩
  go_wp2_with fail
  refine bodyPost_ret (v := mana (ad (cl a) n) (cl b) (cl c) (cl d)) (by simp [results, Try.results13, go_sem, ad]) rfl ⟨rfl, ?_⟩
  go_grown

set_option maxHeartbeats 1000000 in
theorem add_1 (a b c d : Int) (n : Int) (w : World) : Calls Try.prog 13 #[mana a b c d, .int .i64 1, .int .i64 n] w fun e w' => e = .returned (mana (cl a) (ad (cl b) n) (cl c) (cl d)) ∧ Below w.heap.size w w' := by
  have Hs := Lib.hid (fun W => sound_any a b c d W)
  obtain ⟨a0, a1⟩ := cl_bd a
  obtain ⟨b0, b1⟩ := cl_bd b
  obtain ⟨c0, c1⟩ := cl_bd c
  obtain ⟨d0, d1⟩ := cl_bd d
  have n0 := sm_bd n
  obtain ⟨n0, n1⟩ := n0
  have hmm : ∀ n : Int, (if n < -999 then -999 else n) = mxm n := fun _ => rfl
  have hmx : ∀ n : Int, (if n < 0 then 0 else n) = mx0 n := fun _ => rfl
  have hmn : ∀ n : Int, (if 999 < n then 999 else n) = mn9 n := fun _ => rfl
  have hcl : ∀ n : Int, mn9 (mx0 n) = cl n := mn_mx
  go_enter Try.func13, Try.ntmps13
  go_wp2_with fail
  refine (Hs.out _).mono ?_; rintro e w' ⟨rfl, rfl⟩
  go_wp2_with fail
  refine (within_any _ _).mono ?_; rintro e w' ⟨rfl, rfl⟩
  go_wp2_with fail
  refine bodyPost_ret (v := mana (cl a) (ad (cl b) n) (cl c) (cl d)) (by simp [results, Try.results13, go_sem, ad]) rfl ⟨rfl, ?_⟩
  go_grown

set_option maxHeartbeats 1000000 in
theorem add_2 (a b c d : Int) (n : Int) (w : World) : Calls Try.prog 13 #[mana a b c d, .int .i64 2, .int .i64 n] w fun e w' => e = .returned (mana (cl a) (cl b) (ad (cl c) n) (cl d)) ∧ Below w.heap.size w w' := by
  have Hs := Lib.hid (fun W => sound_any a b c d W)
  obtain ⟨a0, a1⟩ := cl_bd a
  obtain ⟨b0, b1⟩ := cl_bd b
  obtain ⟨c0, c1⟩ := cl_bd c
  obtain ⟨d0, d1⟩ := cl_bd d
  have n0 := sm_bd n
  obtain ⟨n0, n1⟩ := n0
  have hmm : ∀ n : Int, (if n < -999 then -999 else n) = mxm n := fun _ => rfl
  have hmx : ∀ n : Int, (if n < 0 then 0 else n) = mx0 n := fun _ => rfl
  have hmn : ∀ n : Int, (if 999 < n then 999 else n) = mn9 n := fun _ => rfl
  have hcl : ∀ n : Int, mn9 (mx0 n) = cl n := mn_mx
  go_enter Try.func13, Try.ntmps13
  go_wp2_with fail
  refine (Hs.out _).mono ?_; rintro e w' ⟨rfl, rfl⟩
  go_wp2_with fail
  refine (within_any _ _).mono ?_; rintro e w' ⟨rfl, rfl⟩
  go_wp2_with fail
  refine bodyPost_ret (v := mana (cl a) (cl b) (ad (cl c) n) (cl d)) (by simp [results, Try.results13, go_sem, ad]) rfl ⟨rfl, ?_⟩
  go_grown

set_option maxHeartbeats 1000000 in
theorem add_3 (a b c d : Int) (n : Int) (w : World) : Calls Try.prog 13 #[mana a b c d, .int .i64 3, .int .i64 n] w fun e w' => e = .returned (mana (cl a) (cl b) (cl c) (ad (cl d) n)) ∧ Below w.heap.size w w' := by
  have Hs := Lib.hid (fun W => sound_any a b c d W)
  obtain ⟨a0, a1⟩ := cl_bd a
  obtain ⟨b0, b1⟩ := cl_bd b
  obtain ⟨c0, c1⟩ := cl_bd c
  obtain ⟨d0, d1⟩ := cl_bd d
  have n0 := sm_bd n
  obtain ⟨n0, n1⟩ := n0
  have hmm : ∀ n : Int, (if n < -999 then -999 else n) = mxm n := fun _ => rfl
  have hmx : ∀ n : Int, (if n < 0 then 0 else n) = mx0 n := fun _ => rfl
  have hmn : ∀ n : Int, (if 999 < n then 999 else n) = mn9 n := fun _ => rfl
  have hcl : ∀ n : Int, mn9 (mx0 n) = cl n := mn_mx
  go_enter Try.func13, Try.ntmps13
  go_wp2_with fail
  refine (Hs.out _).mono ?_; rintro e w' ⟨rfl, rfl⟩
  go_wp2_with fail
  refine (within_any _ _).mono ?_; rintro e w' ⟨rfl, rfl⟩
  go_wp2_with fail
  refine bodyPost_ret (v := mana (cl a) (cl b) (cl c) (ad (cl d) n)) (by simp [results, Try.results13, go_sem, ad]) rfl ⟨rfl, ?_⟩
  go_grown

set_option maxHeartbeats 1000000 in
theorem add_no (a b c d : Int) (color : Int) (hk : color < 0 ∨ 4 ≤ color) (n : Int) (w : World) : Calls Try.prog 13 #[mana a b c d, .int .i64 color, .int .i64 n] w fun e w' => e = .returned (mana (cl a) (cl b) (cl c) (cl d)) ∧ Below w.heap.size w w' := by
  have Hs := Lib.hid (fun W => sound_any a b c d W)
  obtain ⟨a0, a1⟩ := cl_bd a
  obtain ⟨b0, b1⟩ := cl_bd b
  obtain ⟨c0, c1⟩ := cl_bd c
  obtain ⟨d0, d1⟩ := cl_bd d
  have n0 := sm_bd n
  obtain ⟨n0, n1⟩ := n0
  have hmm : ∀ n : Int, (if n < -999 then -999 else n) = mxm n := fun _ => rfl
  have hmx : ∀ n : Int, (if n < 0 then 0 else n) = mx0 n := fun _ => rfl
  have hmn : ∀ n : Int, (if 999 < n then 999 else n) = mn9 n := fun _ => rfl
  have hcl : ∀ n : Int, mn9 (mx0 n) = cl n := mn_mx
  rcases hk with hk | hk
  all_goals
    go_enter Try.func13, Try.ntmps13
    go_wp2_with fail
    refine (Hs.out _).mono ?_; rintro e w' ⟨rfl, rfl⟩
    go_wp2_with fail
    refine bodyPost_ret (v := mana (cl a) (cl b) (cl c) (cl d)) (by simp [results, Try.results13, go_sem]) rfl ⟨rfl, ?_⟩
    go_grown

set_option maxHeartbeats 1000000 in
theorem radd_0 (a b c d : Int) (n : Int) (w : World) : Calls Try.prog 14 #[mana a b c d, .int .i64 0, .int .i64 n] w fun e w' => e = .returned (mana (ad (cl a) n) (cl b) (cl c) (cl d)) ∧ Below w.heap.size w w' := by
  have Hs := Lib.hid (fun W => rsound_any a b c d W)
  obtain ⟨a0, a1⟩ := cl_bd a
  obtain ⟨b0, b1⟩ := cl_bd b
  obtain ⟨c0, c1⟩ := cl_bd c
  obtain ⟨d0, d1⟩ := cl_bd d
  have n0 := sm_bd n
  obtain ⟨n0, n1⟩ := n0
  have hmm : ∀ n : Int, (if n < -999 then -999 else n) = mxm n := fun _ => rfl
  have hmx : ∀ n : Int, (if n < 0 then 0 else n) = mx0 n := fun _ => rfl
  have hmn : ∀ n : Int, (if 999 < n then 999 else n) = mn9 n := fun _ => rfl
  have hcl : ∀ n : Int, mn9 (mx0 n) = cl n := mn_mx
  go_enter Try.func14, Try.ntmps14
  go_wp2_with fail
  refine (Hs.out _).mono ?_; rintro e w' ⟨rfl, rfl⟩
  go_wp2_with fail
  refine bodyPost_ret (v := mana (ad (cl a) n) (cl b) (cl c) (cl d)) (by simp [results, Try.results14, go_sem, ad]) rfl ⟨rfl, ?_⟩
  go_grown

set_option maxHeartbeats 1000000 in
theorem radd_1 (a b c d : Int) (n : Int) (w : World) : Calls Try.prog 14 #[mana a b c d, .int .i64 1, .int .i64 n] w fun e w' => e = .returned (mana (cl a) (ad (cl b) n) (cl c) (cl d)) ∧ Below w.heap.size w w' := by
  have Hs := Lib.hid (fun W => rsound_any a b c d W)
  obtain ⟨a0, a1⟩ := cl_bd a
  obtain ⟨b0, b1⟩ := cl_bd b
  obtain ⟨c0, c1⟩ := cl_bd c
  obtain ⟨d0, d1⟩ := cl_bd d
  have n0 := sm_bd n
  obtain ⟨n0, n1⟩ := n0
  have hmm : ∀ n : Int, (if n < -999 then -999 else n) = mxm n := fun _ => rfl
  have hmx : ∀ n : Int, (if n < 0 then 0 else n) = mx0 n := fun _ => rfl
  have hmn : ∀ n : Int, (if 999 < n then 999 else n) = mn9 n := fun _ => rfl
  have hcl : ∀ n : Int, mn9 (mx0 n) = cl n := mn_mx
  go_enter Try.func14, Try.ntmps14
  go_wp2_with fail
  refine (Hs.out _).mono ?_; rintro e w' ⟨rfl, rfl⟩
  go_wp2_with fail
  refine bodyPost_ret (v := mana (cl a) (ad (cl b) n) (cl c) (cl d)) (by simp [results, Try.results14, go_sem, ad]) rfl ⟨rfl, ?_⟩
  go_grown

set_option maxHeartbeats 1000000 in
theorem radd_2 (a b c d : Int) (n : Int) (w : World) : Calls Try.prog 14 #[mana a b c d, .int .i64 2, .int .i64 n] w fun e w' => e = .returned (mana (cl a) (cl b) (ad (cl c) n) (cl d)) ∧ Below w.heap.size w w' := by
  have Hs := Lib.hid (fun W => rsound_any a b c d W)
  obtain ⟨a0, a1⟩ := cl_bd a
  obtain ⟨b0, b1⟩ := cl_bd b
  obtain ⟨c0, c1⟩ := cl_bd c
  obtain ⟨d0, d1⟩ := cl_bd d
  have n0 := sm_bd n
  obtain ⟨n0, n1⟩ := n0
  have hmm : ∀ n : Int, (if n < -999 then -999 else n) = mxm n := fun _ => rfl
  have hmx : ∀ n : Int, (if n < 0 then 0 else n) = mx0 n := fun _ => rfl
  have hmn : ∀ n : Int, (if 999 < n then 999 else n) = mn9 n := fun _ => rfl
  have hcl : ∀ n : Int, mn9 (mx0 n) = cl n := mn_mx
  go_enter Try.func14, Try.ntmps14
  go_wp2_with fail
  refine (Hs.out _).mono ?_; rintro e w' ⟨rfl, rfl⟩
  go_wp2_with fail
  refine bodyPost_ret (v := mana (cl a) (cl b) (ad (cl c) n) (cl d)) (by simp [results, Try.results14, go_sem, ad]) rfl ⟨rfl, ?_⟩
  go_grown

set_option maxHeartbeats 1000000 in
theorem radd_3 (a b c d : Int) (n : Int) (w : World) : Calls Try.prog 14 #[mana a b c d, .int .i64 3, .int .i64 n] w fun e w' => e = .returned (mana (cl a) (cl b) (cl c) (ad (cl d) n)) ∧ Below w.heap.size w w' := by
  have Hs := Lib.hid (fun W => rsound_any a b c d W)
  obtain ⟨a0, a1⟩ := cl_bd a
  obtain ⟨b0, b1⟩ := cl_bd b
  obtain ⟨c0, c1⟩ := cl_bd c
  obtain ⟨d0, d1⟩ := cl_bd d
  have n0 := sm_bd n
  obtain ⟨n0, n1⟩ := n0
  have hmm : ∀ n : Int, (if n < -999 then -999 else n) = mxm n := fun _ => rfl
  have hmx : ∀ n : Int, (if n < 0 then 0 else n) = mx0 n := fun _ => rfl
  have hmn : ∀ n : Int, (if 999 < n then 999 else n) = mn9 n := fun _ => rfl
  have hcl : ∀ n : Int, mn9 (mx0 n) = cl n := mn_mx
  go_enter Try.func14, Try.ntmps14
  go_wp2_with fail
  refine (Hs.out _).mono ?_; rintro e w' ⟨rfl, rfl⟩
  go_wp2_with fail
  refine bodyPost_ret (v := mana (cl a) (cl b) (cl c) (ad (cl d) n)) (by simp [results, Try.results14, go_sem, ad]) rfl ⟨rfl, ?_⟩
  go_grown

set_option maxHeartbeats 1000000 in
theorem radd_no (a b c d : Int) (color : Int) (hk : color < 0 ∨ 4 ≤ color) (n : Int) (w : World) : Calls Try.prog 14 #[mana a b c d, .int .i64 color, .int .i64 n] w fun e w' => e = .returned (mana (cl a) (cl b) (cl c) (cl d)) ∧ Below w.heap.size w w' := by
  have Hs := Lib.hid (fun W => rsound_any a b c d W)
  obtain ⟨a0, a1⟩ := cl_bd a
  obtain ⟨b0, b1⟩ := cl_bd b
  obtain ⟨c0, c1⟩ := cl_bd c
  obtain ⟨d0, d1⟩ := cl_bd d
  have n0 := sm_bd n
  obtain ⟨n0, n1⟩ := n0
  have hmm : ∀ n : Int, (if n < -999 then -999 else n) = mxm n := fun _ => rfl
  have hmx : ∀ n : Int, (if n < 0 then 0 else n) = mx0 n := fun _ => rfl
  have hmn : ∀ n : Int, (if 999 < n then 999 else n) = mn9 n := fun _ => rfl
  have hcl : ∀ n : Int, mn9 (mx0 n) = cl n := mn_mx
  rcases hk with hk | hk
  all_goals
    go_enter Try.func14, Try.ntmps14
    go_wp2_with fail
    refine (Hs.out _).mono ?_; rintro e w' ⟨rfl, rfl⟩
    go_wp2_with fail
    refine bodyPost_ret (v := mana (cl a) (cl b) (cl c) (cl d)) (by simp [results, Try.results14, go_sem]) rfl ⟨rfl, ?_⟩
    go_grown

end Go.Proofs.Ythbbmkkkjbocaaa
