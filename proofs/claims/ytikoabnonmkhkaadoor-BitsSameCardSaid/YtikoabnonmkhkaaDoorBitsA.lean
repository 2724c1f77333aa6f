/- Walks of a set's Has, Add, Del, and of the library's TrailingZeros64. -/
import Derived.Test.YtikoabnonmkhkaaDoorBitsPlain
import Derived.Test.YtikoabnonmkhkaaDoorArr
import Derived.Test.YtikoabnonmkhkaaDoorQTail
import Derived.Laws.BitsAllLaws
import Derived.Laws.Bits64b
import Derived.StillTailTactics
import Derived.Deep.RegionLaw
import Derived.IntWalk
namespace Go.Proofs.YtikoabnonmkhkaaDoor
open Go.RowKit

/-- A set's value. -/
def sv (a b c d : Nat) : Value := .agg #[.int .u64 a, .int .u64 b, .int .u64 c, .int .u64 d]
theorem place_yes (i : Int) (w : World) (h0 : 0 ≤ i) (h1 : i < 256) : Calls Tryd.prog 29 #[.int .i64 i] w fun e w' => e = .returned (.bool true) ∧ w = w' := by
  go_enter Tryd.func29, Tryd.ntmps29
  go_wp2
  go_ret
  exact ⟨rfl, rfl⟩
theorem place_no (i : Int) (w : World) (h : i < 0 ∨ 256 ≤ i) : Calls Tryd.prog 29 #[.int .i64 i] w fun e w' => e = .returned (.bool false) ∧ w = w' := by
  rcases h with h | h
  · go_enter Tryd.func29, Tryd.ntmps29
    go_wp2
    go_ret
    exact ⟨rfl, rfl⟩
  · have h0 : 0 ≤ i := by omega
    have hd : decide (i < 256) = false := by simp; omega
    go_enter Tryd.func29, Tryd.ntmps29
    go_wp2
    go_ret
    exact ⟨rfl, rfl⟩
theorem and_one (x : Nat) (hx : x < 2 ^ 64) : (bits BinOp.and IntKind.u64 (x : Int) 1 == 1) = decide (x % 2 = 1) := by
  have := u64_and_nat x 1 (by omega) (by omega)
  rw [nat_mask1] at this
  rw [show ((1 : Nat) : Int) = 1 from rfl] at this
  rw [this, Bool.eq_iff_iff, beq_iff_eq, decide_eq_true_eq]
  omega
theorem has_no (a b c d : Nat) (i : Int) (w : World) (h : i < 0 ∨ 256 ≤ i) : Calls Tryd.prog 9 #[sv a b c d, .int .i64 i] w fun e w' => e = .returned (.bool false) ∧ Below w.heap.size w w' := by
  unfold sv
  go_enter Tryd.func9, Tryd.ntmps9
  have H := Lib.hid h
  clear h
  go_wp2_with (go_at_call 29; refine (place_no i _ H.out).mono ?_; rintro e w' ⟨rfl, rfl⟩)
  go_ret
  exact ⟨rfl, fb_alloc (Below.refl _ _) _⟩
theorem has_yes (a b c d q r : Nat) (w : World) (h1 : a < 2 ^ 64) (h2 : b < 2 ^ 64) (h3 : c < 2 ^ 64) (h4 : d < 2 ^ 64) (hq : q < 4) (hr : r < 64) : Calls Tryd.prog 9 #[sv a b c d, .int .i64 ((64 * q + r : Nat) : Int)] w fun e w' => e = .returned (.bool (hasB [a, b, c, d] (64 * q + r))) ∧ Below w.heap.size w w' := by
  have key : ∀ x : Nat, x < 2 ^ 64 → (bits BinOp.and IntKind.u64 ((x : Int) / 2 ^ r) 1 == 1) = x.testBit r := fun x hx => by
    have e : (x : Int) / 2 ^ r = ((x / 2 ^ r : Nat) : Int) := by simp
    rw [e, and_one _ (Nat.lt_of_le_of_lt (Nat.div_le_self _ _) hx), Nat.testBit_eq_decide_div_mod_eq]
  have hh : hasB [a, b, c, d] (64 * q + r) = ([a, b, c, d].getD q 0).testBit r := by unfold hasB; rw [show (64 * q + r) / 64 = q by omega, show (64 * q + r) % 64 = r by omega]
  have ka := key a h1
  have kb := key b h2
  have kc := key c h3
  have kd := key d h4
  have HK := Lib.hid (And.intro hh (And.intro ka (And.intro kb (And.intro kc kd))))
  clear hh key ka kb kc kd
  unfold sv
  obtain ⟨i, hi⟩ : ∃ i : Nat, 64 * q + r = i := ⟨_, rfl⟩
  rw [hi] at HK ⊢
  have hp1 : (0 : Int) ≤ i := by omega
  have hp2 : (i : Int) < 256 := by omega
  have hir : (i : Int) % 64 = r := by omega
  have hiq : (i : Int) / 64 = q := by omega
  have hqs : q = 0 ∨ q = 1 ∨ q = 2 ∨ q = 3 := by omega
  clear hi hq
  rcases hqs with rfl | rfl | rfl | rfl
  all_goals
    go_enter Tryd.func9, Tryd.ntmps9
    go_wp2_with (go_at_call 29; refine (place_yes i _ hp1 hp2).mono ?_; rintro e w' ⟨rfl, rfl⟩)
    go_ret
    exact ⟨ret_b (by rw [HK.out.1]; first | exact HK.out.2.1 | exact HK.out.2.2.1 | exact HK.out.2.2.2.1 | exact HK.out.2.2.2.2), fb_alloc (Below.refl _ _) _⟩
theorem add1_any (x y : Nat) (w : World) (hx : x < 2 ^ 64) (hy : y < 2 ^ 64) : Calls Tryd.prog 31 #[.int .u64 x, .int .u64 y] w fun e w' => e = .returned (.int .u64 ((x ||| y : Nat) : Int)) ∧ w' = w := by
  have h := u64_or_nat x y (by omega) (by omega)
  go_enter Tryd.func31, Tryd.ntmps31
  go_wp2
  go_ret
  exact ⟨rfl, rfl⟩
theorem del1_any (x y : Nat) (w : World) (hx : x < 2 ^ 64) (hy : y < 2 ^ 64) : Calls Tryd.prog 33 #[.int .u64 x, .int .u64 y] w fun e w' => e = .returned (.int .u64 ((x &&& notB y : Nat) : Int)) ∧ w' = w := by
  have h := u64_andNot_nat x y (by omega) (by omega)
  go_enter Tryd.func33, Tryd.ntmps33
  go_wp2
  go_ret
  exact ⟨rfl, rfl⟩
theorem pow_wrap (r p : Nat) (hr : r < 64) (hp : 2 ^ r = p) : IntKind.u64.wrap ((2 : Int) ^ r) = (p : Int) ∧ p < 2 ^ 64 := by
  have h := pow_lt64 r hr
  rw [hp] at h
  have e : (2 : Int) ^ r = (p : Int) := by rw [← hp]; simp
  exact ⟨by rw [e]; exact IntWalk.u64_in _ (by omega), h⟩
/-- A set with one word changed. -/
def addW (S : List Nat) (q r : Nat) : List Nat := S.set q (S.getD q 0 ||| 2 ^ r)
set_option maxHeartbeats 1000000 in
theorem with_add (a b c d q r : Nat) (w : World) (h1 : a < 2 ^ 64) (h2 : b < 2 ^ 64) (h3 : c < 2 ^ 64) (h4 : d < 2 ^ 64) (hq : q < 4) (hr : r < 64) (a' b' c' d' : Nat) (hS : addW [a, b, c, d] q r = [a', b', c', d']) :
    Calls Tryd.prog 30 #[sv a b c d, .int .i64 ((64 * q + r : Nat) : Int), .func (.func 31) #[] #[]] w fun e w' => e = .returned (sv a' b' c' d') ∧ Below w.heap.size w w' := by
  unfold sv
  obtain ⟨p, hp⟩ : ∃ p, 2 ^ r = p := ⟨_, rfl⟩
  obtain ⟨hpw, hp64⟩ := pow_wrap r p hr hp
  obtain ⟨i, hi⟩ : ∃ i : Nat, 64 * q + r = i := ⟨_, rfl⟩
  rw [hi]
  have hp1 : (0 : Int) ≤ i := by omega
  have hp2 : (i : Int) < 256 := by omega
  have hir : (i : Int) % 64 = r := by omega
  have hiq : (i : Int) / 64 = q := by omega
  have hqs : q = 0 ∨ q = 1 ∨ q = 2 ∨ q = 3 := by omega
  unfold addW at hS
  rw [hp] at hS
  clear hi hq hp
  rcases hqs with rfl | rfl | rfl | rfl
  all_goals
    simp only [List.getD_cons_zero, List.getD_cons_succ, List.set_cons_zero, List.set_cons_succ, List.cons.injEq, and_true] at hS
    obtain ⟨rfl, rfl, rfl, rfl⟩ := hS
    go_enter Tryd.func30, Tryd.ntmps30
    go_wp2_with (go_at_call 29; refine (place_yes i _ hp1 hp2).mono ?_; rintro e w' ⟨rfl, rfl⟩)
    refine wp_region_drewN_tail 12 (by kernel_rfl) (by kernel_rfl) ?_
    simp only [List.take_succ_cons, List.take_zero, List.drop_succ_cons, List.drop_zero]
    repeat (go_big_quiet_step ((go_at_call 31; exact Calls.quiet_of_same (add1_any _ p _ (by assumption) hp64))))
    refine wpQuiet_nil ?_
    intro _ hw'
    obtain ⟨nq, hw''⟩ := hw'
    subst hw''
    go_wp2
    exact bodyPost_ret (by simp [results, Tryd.results30, go_sem]) rfl ⟨rfl, fb_drewN (fb_alloc (fb_alloc (Below.refl _ w) _) _) _⟩
/-- A set with one word changed. -/
def delW (S : List Nat) (q r : Nat) : List Nat := S.set q (S.getD q 0 &&& notB (2 ^ r))
set_option maxHeartbeats 1000000 in
theorem with_del (a b c d q r : Nat) (w : World) (h1 : a < 2 ^ 64) (h2 : b < 2 ^ 64) (h3 : c < 2 ^ 64) (h4 : d < 2 ^ 64) (hq : q < 4) (hr : r < 64) (a' b' c' d' : Nat) (hS : delW [a, b, c, d] q r = [a', b', c', d']) :
    Calls Tryd.prog 30 #[sv a b c d, .int .i64 ((64 * q + r : Nat) : Int), .func (.func 33) #[] #[]] w fun e w' => e = .returned (sv a' b' c' d') ∧ Below w.heap.size w w' := by
  unfold sv
  obtain ⟨p, hp⟩ : ∃ p, 2 ^ r = p := ⟨_, rfl⟩
  obtain ⟨hpw, hp64⟩ := pow_wrap r p hr hp
  obtain ⟨i, hi⟩ : ∃ i : Nat, 64 * q + r = i := ⟨_, rfl⟩
  rw [hi]
  have hp1 : (0 : Int) ≤ i := by omega
  have hp2 : (i : Int) < 256 := by omega
  have hir : (i : Int) % 64 = r := by omega
  have hiq : (i : Int) / 64 = q := by omega
  have hqs : q = 0 ∨ q = 1 ∨ q = 2 ∨ q = 3 := by omega
  unfold delW at hS
  rw [hp] at hS
  clear hi hq hp
  rcases hqs with rfl | rfl | rfl | rfl
  all_goals
    simp only [List.getD_cons_zero, List.getD_cons_succ, List.set_cons_zero, List.set_cons_succ, List.cons.injEq, and_true] at hS
    obtain ⟨rfl, rfl, rfl, rfl⟩ := hS
    go_enter Tryd.func30, Tryd.ntmps30
    go_wp2_with (go_at_call 29; refine (place_yes i _ hp1 hp2).mono ?_; rintro e w' ⟨rfl, rfl⟩)
    refine wp_region_drewN_tail 12 (by kernel_rfl) (by kernel_rfl) ?_
    simp only [List.take_succ_cons, List.take_zero, List.drop_succ_cons, List.drop_zero]
    repeat (go_big_quiet_step ((go_at_call 33; exact Calls.quiet_of_same (del1_any _ p _ (by assumption) hp64))))
    refine wpQuiet_nil ?_
    intro _ hw'
    obtain ⟨nq, hw''⟩ := hw'
    subst hw''
    go_wp2
    exact bodyPost_ret (by simp [results, Tryd.results30, go_sem]) rfl ⟨rfl, fb_drewN (fb_alloc (fb_alloc (Below.refl _ w) _) _) _⟩
theorem with_no (a b c d : Nat) (i : Int) (f : FuncId) (w : World) (h : i < 0 ∨ 256 ≤ i) :
    Calls Tryd.prog 30 #[sv a b c d, .int .i64 i, .func (.func f) #[] #[]] w fun e w' => e = .returned (sv a b c d) ∧ Below w.heap.size w w' := by
  unfold sv
  have H := Lib.hid h
  clear h
  go_enter Tryd.func30, Tryd.ntmps30
  go_wp2_with (go_at_call 29; refine (place_no i _ H.out).mono ?_; rintro e w' ⟨rfl, rfl⟩)
  exact bodyPost_ret (by simp [results, Tryd.results30, go_sem]) rfl ⟨rfl, fb_alloc (fb_alloc (Below.refl _ w) _) _⟩
/-- A list of four words as a value. -/
def svL : List Nat → Value
  | [a, b, c, d] => sv a b c d
  | _ => .bool false
def addI (S : List Nat) (i : Int) : List Nat := if 0 ≤ i ∧ i < 256 then addB S i.toNat else S
def delI (S : List Nat) (i : Int) : List Nat := if 0 ≤ i ∧ i < 256 then delB S i.toNat else S
def hasI (S : List Nat) (i : Int) : Bool := decide (0 ≤ i ∧ i < 256) && hasB S i.toNat
theorem wf_addI {S : List Nat} (h : wfB S) (i : Int) : wfB (addI S i) := by unfold addI; split; exact wf_add h _; exact h
theorem wf_delI {S : List Nat} (h : wfB S) (i : Int) : wfB (delI S i) := by unfold delI; split; exact wf_del h _; exact h
theorem bhas_any {S : List Nat} (h : wfB S) (i : Int) (w : World) : Calls Tryd.prog 9 #[svL S, .int .i64 i] w fun e w' => e = .returned (.bool (hasI S i)) ∧ Below w.heap.size w w' := by
  obtain ⟨a, b, c, d, rfl, h1, h2, h3, h4⟩ := wf_form h
  by_cases hi : 0 ≤ i ∧ i < 256
  · obtain ⟨n, rfl⟩ := Int.eq_ofNat_of_zero_le hi.1
    have e : n = 64 * (n / 64) + n % 64 := by omega
    have hh : hasI [a, b, c, d] (n : Int) = hasB [a, b, c, d] (64 * (n / 64) + n % 64) := by unfold hasI; rw [← e, decide_eq_true hi, Bool.true_and, Int.toNat_natCast]
    rw [hh]
    have := has_yes a b c d (n / 64) (n % 64) w h1 h2 h3 h4 (by omega) (Nat.mod_lt _ (by omega))
    rw [← e] at this ⊢
    exact this
  · rw [show hasI [a, b, c, d] i = false from by unfold hasI; rw [decide_eq_false hi, Bool.false_and]]
    exact has_no a b c d i w (by omega)
theorem badd_any {S : List Nat} (h : wfB S) (i : Int) (w : World) : Calls Tryd.prog 11 #[svL S, .int .i64 i] w fun e w' => e = .returned (svL (addI S i)) ∧ Below w.heap.size w w' := by
  have hw := wf_addI h i
  obtain ⟨a', b', c', d', hS, _⟩ := wf_form hw
  obtain ⟨a, b, c, d, rfl, h1, h2, h3, h4⟩ := wf_form h
  have hc : ∀ w1 : World, Calls Tryd.prog 30 #[sv a b c d, .int .i64 i, .func (.func 31) #[] #[]] w1 fun e w' => e = .returned (sv a' b' c' d') ∧ Below w1.heap.size w1 w' := by
    intro w1
    by_cases hi : 0 ≤ i ∧ i < 256
    · obtain ⟨n, rfl⟩ := Int.eq_ofNat_of_zero_le hi.1
      have e : n = 64 * (n / 64) + n % 64 := by omega
      have := with_add a b c d (n / 64) (n % 64) w1 h1 h2 h3 h4 (by omega) (Nat.mod_lt _ (by omega)) a' b' c' d' (by
        unfold addI at hS
        rw [if_pos hi, Int.toNat_natCast] at hS
        exact hS)
      rw [← e] at this
      exact this
    · unfold addI at hS
      rw [if_neg hi] at hS
      cases hS
      exact with_no _ _ _ _ i _ w1 (by omega)
  rw [hS]
  have HC := Lib.hid hc
  clear hc hw hS
  unfold sv at HC
  show Calls Tryd.prog 11 #[sv a b c d, .int .i64 i] w fun e w' => e = .returned (sv a' b' c' d') ∧ Below w.heap.size w w'
  unfold sv
  go_enter Tryd.func11, Tryd.ntmps11
  go_wp2_with fail
  refine (HC.out _).mono ?_
  rintro e w1 ⟨rfl, hb⟩
  have c0 : w1.cell? ⟨w.heap.size + 1, 0, none⟩ = some (.int .u64 0) := (hb.cell (p := ⟨_, 0, none⟩) (by simp)).trans (by go_simp)
  have c1 : w1.cell? ⟨w.heap.size + 1, 1, none⟩ = some (.int .u64 0) := (hb.cell (p := ⟨_, 1, none⟩) (by simp)).trans (by go_simp)
  have c2 : w1.cell? ⟨w.heap.size + 1, 2, none⟩ = some (.int .u64 0) := (hb.cell (p := ⟨_, 2, none⟩) (by simp)).trans (by go_simp)
  have c3 : w1.cell? ⟨w.heap.size + 1, 3, none⟩ = some (.int .u64 0) := (hb.cell (p := ⟨_, 3, none⟩) (by simp)).trans (by go_simp)
  have f0 : w1.frozen? ⟨w.heap.size + 1, 0, none⟩ = false := (hb.frozen (p := ⟨_, 0, none⟩) (by simp)).trans (by go_simp)
  have f1 : w1.frozen? ⟨w.heap.size + 1, 1, none⟩ = false := (hb.frozen (p := ⟨_, 1, none⟩) (by simp)).trans (by go_simp)
  have f2 : w1.frozen? ⟨w.heap.size + 1, 2, none⟩ = false := (hb.frozen (p := ⟨_, 2, none⟩) (by simp)).trans (by go_simp)
  have f3 : w1.frozen? ⟨w.heap.size + 1, 3, none⟩ = false := (hb.frozen (p := ⟨_, 3, none⟩) (by simp)).trans (by go_simp)
  have HB := Lib.hid (fb_call (fb_alloc (fb_alloc (Below.refl _ w) _) _) hb)
  clear hb
  go_wp2
  exact bodyPost_ret (by simp [results, Tryd.results11, go_sem, c0, c1, c2, c3]) rfl ⟨rfl, (((HB.out.setCell (Nat.le_succ _) _).setCell (Nat.le_succ _) _).setCell (Nat.le_succ _) _).setCell (Nat.le_succ _) _⟩
theorem bdel_any {S : List Nat} (h : wfB S) (i : Int) (w : World) : Calls Tryd.prog 14 #[svL S, .int .i64 i] w fun e w' => e = .returned (svL (delI S i)) ∧ Below w.heap.size w w' := by
  have hw := wf_delI h i
  obtain ⟨a', b', c', d', hS, _⟩ := wf_form hw
  obtain ⟨a, b, c, d, rfl, h1, h2, h3, h4⟩ := wf_form h
  have hc : ∀ w1 : World, Calls Tryd.prog 30 #[sv a b c d, .int .i64 i, .func (.func 33) #[] #[]] w1 fun e w' => e = .returned (sv a' b' c' d') ∧ Below w1.heap.size w1 w' := by
    intro w1
    by_cases hi : 0 ≤ i ∧ i < 256
    · obtain ⟨n, rfl⟩ := Int.eq_ofNat_of_zero_le hi.1
      have e : n = 64 * (n / 64) + n % 64 := by omega
      have := with_del a b c d (n / 64) (n % 64) w1 h1 h2 h3 h4 (by omega) (Nat.mod_lt _ (by omega)) a' b' c' d' (by
        unfold delI at hS
        rw [if_pos hi, Int.toNat_natCast] at hS
        exact hS)
      rw [← e] at this
      exact this
    · unfold delI at hS
      rw [if_neg hi] at hS
      cases hS
      exact with_no _ _ _ _ i _ w1 (by omega)
  rw [hS]
  have HC := Lib.hid hc
  clear hc hw hS
  unfold sv at HC
  show Calls Tryd.prog 14 #[sv a b c d, .int .i64 i] w fun e w' => e = .returned (sv a' b' c' d') ∧ Below w.heap.size w w'
  unfold sv
  go_enter Tryd.func14, Tryd.ntmps14
  go_wp2_with fail
  refine (HC.out _).mono ?_
  rintro e w1 ⟨rfl, hb⟩
  have c0 : w1.cell? ⟨w.heap.size + 1, 0, none⟩ = some (.int .u64 0) := (hb.cell (p := ⟨_, 0, none⟩) (by simp)).trans (by go_simp)
  have c1 : w1.cell? ⟨w.heap.size + 1, 1, none⟩ = some (.int .u64 0) := (hb.cell (p := ⟨_, 1, none⟩) (by simp)).trans (by go_simp)
  have c2 : w1.cell? ⟨w.heap.size + 1, 2, none⟩ = some (.int .u64 0) := (hb.cell (p := ⟨_, 2, none⟩) (by simp)).trans (by go_simp)
  have c3 : w1.cell? ⟨w.heap.size + 1, 3, none⟩ = some (.int .u64 0) := (hb.cell (p := ⟨_, 3, none⟩) (by simp)).trans (by go_simp)
  have f0 : w1.frozen? ⟨w.heap.size + 1, 0, none⟩ = false := (hb.frozen (p := ⟨_, 0, none⟩) (by simp)).trans (by go_simp)
  have f1 : w1.frozen? ⟨w.heap.size + 1, 1, none⟩ = false := (hb.frozen (p := ⟨_, 1, none⟩) (by simp)).trans (by go_simp)
  have f2 : w1.frozen? ⟨w.heap.size + 1, 2, none⟩ = false := (hb.frozen (p := ⟨_, 2, none⟩) (by simp)).trans (by go_simp)
  have f3 : w1.frozen? ⟨w.heap.size + 1, 3, none⟩ = false := (hb.frozen (p := ⟨_, 3, none⟩) (by simp)).trans (by go_simp)
  have HB := Lib.hid (fb_call (fb_alloc (fb_alloc (Below.refl _ w) _) _) hb)
  clear hb
  go_wp2
  exact bodyPost_ret (by simp [results, Tryd.results14, go_sem, c0, c1, c2, c3]) rfl ⟨rfl, (((HB.out.setCell (Nat.le_succ _) _).setCell (Nat.le_succ _) _).setCell (Nat.le_succ _) _).setCell (Nat.le_succ _) _⟩
end Go.Proofs.YtikoabnonmkhkaaDoor
