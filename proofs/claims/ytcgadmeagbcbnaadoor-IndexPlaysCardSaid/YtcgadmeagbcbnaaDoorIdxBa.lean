/- Sets of places: what Add, Del and Next answer. No condition. -/
import Derived.Test.YtcgadmeagbcbnaaDoorIdxBp
import Derived.Test.YtcgadmeagbcbnaaDoorArr
import Derived.Test.YtcgadmeagbcbnaaDoorQTail
import Derived.Laws.BitsAllLaws
import Derived.Laws.Bits64b
import Derived.StillTailTactics
import Derived.Deep.RegionLaw
import Derived.IntWalk
namespace Go.Proofs.YtcgadmeagbcbnaaDoor
open Go.RowKit

/-- A set's value. -/
def sv (a b c d : Nat) : Value := .agg #[.int .u64 a, .int .u64 b, .int .u64 c, .int .u64 d]
theorem place_yes (i : Int) (w : World) (h0 : 0 ≤ i) (h1 : i < 256) : Calls Tryd.prog 58 #[.int .i64 i] w fun e w' => e = .returned (.bool true) ∧ w = w' := by
  go_enter Tryd.func58, Tryd.ntmps58
  go_wp2
  go_ret
  exact ⟨rfl, rfl⟩
theorem place_no (i : Int) (w : World) (h : i < 0 ∨ 256 ≤ i) : Calls Tryd.prog 58 #[.int .i64 i] w fun e w' => e = .returned (.bool false) ∧ w = w' := by
  rcases h with h | h
  · go_enter Tryd.func58, Tryd.ntmps58
    go_wp2
    go_ret
    exact ⟨rfl, rfl⟩
  · have h0 : 0 ≤ i := by omega
    have hd : decide (i < 256) = false := by simp; omega
    go_enter Tryd.func58, Tryd.ntmps58
    go_wp2
    go_ret
    exact ⟨rfl, rfl⟩
theorem add1_any (x y : Nat) (w : World) (hx : x < 2 ^ 64) (hy : y < 2 ^ 64) : Calls Tryd.prog 47 #[.int .u64 x, .int .u64 y] w fun e w' => e = .returned (.int .u64 ((x ||| y : Nat) : Int)) ∧ w' = w := by
  have h := u64_or_nat x y (by omega) (by omega)
  go_enter Tryd.func47, Tryd.ntmps47
  go_wp2
  go_ret
  exact ⟨rfl, rfl⟩
theorem del1_any (x y : Nat) (w : World) (hx : x < 2 ^ 64) (hy : y < 2 ^ 64) : Calls Tryd.prog 48 #[.int .u64 x, .int .u64 y] w fun e w' => e = .returned (.int .u64 ((x &&& notB y : Nat) : Int)) ∧ w' = w := by
  have h := u64_andNot_nat x y (by omega) (by omega)
  go_enter Tryd.func48, Tryd.ntmps48
  go_wp2
  go_ret
  exact ⟨rfl, rfl⟩
theorem pow_wrap (r p : Nat) (hr : r < 64) (hp : 2 ^ r = p) : IntKind.u64.wrap ((2 : Int) ^ r) = (p : Int) ∧ p < 2 ^ 64 := by
  have h := pow_lt64 r hr
  rw [hp] at h
  have e : (2 : Int) ^ r = (p : Int) := by rw [← hp]; simp
  exact ⟨by rw [e]; exact IntWalk.u64_in _ (by omega), h⟩
/-- A set with one word changed. -/
def addW (S : List Nat) (q r : Nat) : List Nat := S.set q (S.getD q 0 ||| 2 ^ r)
set_option maxHeartbeats 1000000 in
theorem with_add (a b c d q r : Nat) (w : World) (h1 : a < 2 ^ 64) (h2 : b < 2 ^ 64) (h3 : c < 2 ^ 64) (h4 : d < 2 ^ 64) (hq : q < 4) (hr : r < 64) (a' b' c' d' : Nat) (hS : addW [a, b, c, d] q r = [a', b', c', d']) :
    Calls Tryd.prog 46 #[sv a b c d, .int .i64 ((64 * q + r : Nat) : Int), .func (.func 47) #[] #[]] w fun e w' => e = .returned (sv a' b' c' d') ∧ Below w.heap.size w w' := by
  unfold sv
  obtain ⟨p, hp⟩ : ∃ p, 2 ^ r = p := ⟨_, rfl⟩
  obtain ⟨hpw, hp64⟩ := pow_wrap r p hr hp
  obtain ⟨i, hi⟩ : ∃ i : Nat, 64 * q + r = i := ⟨_, rfl⟩
  rw [hi]
  have hp1 : (0 : Int) ≤ i := by omega
  have hp2 : (i : Int) < 256 := by omega
  have hir : (i : Int) % 64 = r := by omega
  have hiq : (i : Int) / 64 = q := by omega
  have hqs : q = 0 ∨ q = 1 ∨ q = 2 ∨ q = 3 := by omega
  unfold addW at hS
  rw [hp] at hS
  clear hi hq hp
  rcases hqs with rfl | rfl | rfl | rfl
  all_goals
    simp only [List.getD_cons_zero, List.getD_cons_succ, List.set_cons_zero, List.set_cons_succ, List.cons.injEq, and_true] at hS
    obtain ⟨rfl, rfl, rfl, rfl⟩ := hS
    go_enter Tryd.func46, Tryd.ntmps46
    go_wp2_with (go_at_call 58; refine (place_yes i _ hp1 hp2).mono ?_; rintro e w' ⟨rfl, rfl⟩)
    refine wp_region_drewN_tail 12 (by kernel_rfl) (by kernel_rfl) ?_
    simp only [List.take_succ_cons, List.take_zero, List.drop_succ_cons, List.drop_zero]
    repeat (go_big_quiet_step ((go_at_call 47; exact Calls.quiet_of_same (add1_any _ p _ (by assumption) hp64))))
    refine wpQuiet_nil ?_
    intro _ hw'
    obtain ⟨nq, hw''⟩ := hw'
    subst hw''
    go_wp2
    exact bodyPost_ret (by simp [results, Tryd.results46, go_sem]) rfl ⟨rfl, fb_drewN (fb_alloc (fb_alloc (Below.refl _ w) _) _) _⟩
/-- A set with one word changed. -/
def delW (S : List Nat) (q r : Nat) : List Nat := S.set q (S.getD q 0 &&& notB (2 ^ r))
set_option maxHeartbeats 1000000 in
theorem with_del (a b c d q r : Nat) (w : World) (h1 : a < 2 ^ 64) (h2 : b < 2 ^ 64) (h3 : c < 2 ^ 64) (h4 : d < 2 ^ 64) (hq : q < 4) (hr : r < 64) (a' b' c' d' : Nat) (hS : delW [a, b, c, d] q r = [a', b', c', d']) :
    Calls Tryd.prog 46 #[sv a b c d, .int .i64 ((64 * q + r : Nat) : Int), .func (.func 48) #[] #[]] w fun e w' => e = .returned (sv a' b' c' d') ∧ Below w.heap.size w w' := by
  unfold sv
  obtain ⟨p, hp⟩ : ∃ p, 2 ^ r = p := ⟨_, rfl⟩
  obtain ⟨hpw, hp64⟩ := pow_wrap r p hr hp
  obtain ⟨i, hi⟩ : ∃ i : Nat, 64 * q + r = i := ⟨_, rfl⟩
  rw [hi]
  have hp1 : (0 : Int) ≤ i := by omega
  have hp2 : (i : Int) < 256 := by omega
  have hir : (i : Int) % 64 = r := by omega
  have hiq : (i : Int) / 64 = q := by omega
  have hqs : q = 0 ∨ q = 1 ∨ q = 2 ∨ q = 3 := by omega
  unfold delW at hS
  rw [hp] at hS
  clear hi hq hp
  rcases hqs with rfl | rfl | rfl | rfl
  all_goals
    simp only [List.getD_cons_zero, List.getD_cons_succ, List.set_cons_zero, List.set_cons_succ, List.cons.injEq, and_true] at hS
    obtain ⟨rfl, rfl, rfl, rfl⟩ := hS
    go_enter Tryd.func46, Tryd.ntmps46
    go_wp2_with (go_at_call 58; refine (place_yes i _ hp1 hp2).mono ?_; rintro e w' ⟨rfl, rfl⟩)
    refine wp_region_drewN_tail 12 (by kernel_rfl) (by kernel_rfl) ?_
    simp only [List.take_succ_cons, List.take_zero, List.drop_succ_cons, List.drop_zero]
    repeat (go_big_quiet_step ((go_at_call 48; exact Calls.quiet_of_same (del1_any _ p _ (by assumption) hp64))))
    refine wpQuiet_nil ?_
    intro _ hw'
    obtain ⟨nq, hw''⟩ := hw'
    subst hw''
    go_wp2
    exact bodyPost_ret (by simp [results, Tryd.results46, go_sem]) rfl ⟨rfl, fb_drewN (fb_alloc (fb_alloc (Below.refl _ w) _) _) _⟩
theorem with_no (a b c d : Nat) (i : Int) (f : FuncId) (w : World) (h : i < 0 ∨ 256 ≤ i) :
    Calls Tryd.prog 46 #[sv a b c d, .int .i64 i, .func (.func f) #[] #[]] w fun e w' => e = .returned (sv a b c d) ∧ Below w.heap.size w w' := by
  unfold sv
  have H := Lib.hid h
  clear h
  go_enter Tryd.func46, Tryd.ntmps46
  go_wp2_with (go_at_call 58; refine (place_no i _ H.out).mono ?_; rintro e w' ⟨rfl, rfl⟩)
  exact bodyPost_ret (by simp [results, Tryd.results46, go_sem]) rfl ⟨rfl, fb_alloc (fb_alloc (Below.refl _ w) _) _⟩
/-- A list of four words as a value. -/
def svL : List Nat → Value
  | [a, b, c, d] => sv a b c d
  | _ => .bool false
def addI (S : List Nat) (i : Int) : List Nat := if 0 ≤ i ∧ i < 256 then addB S i.toNat else S
def delI (S : List Nat) (i : Int) : List Nat := if 0 ≤ i ∧ i < 256 then delB S i.toNat else S
def hasI (S : List Nat) (i : Int) : Bool := decide (0 ≤ i ∧ i < 256) && hasS S i.toNat
theorem wf_addI {S : List Nat} (h : wfB S) (i : Int) : wfB (addI S i) := by unfold addI; split; exact wf_add h _; exact h
theorem wf_delI {S : List Nat} (h : wfB S) (i : Int) : wfB (delI S i) := by unfold delI; split; exact wf_del h _; exact h
theorem badd_any {S : List Nat} (h : wfB S) (i : Int) (w : World) : Calls Tryd.prog 30 #[svL S, .int .i64 i] w fun e w' => e = .returned (svL (addI S i)) ∧ Below w.heap.size w w' := by
  have hw := wf_addI h i
  obtain ⟨a', b', c', d', hS, _⟩ := wf_form hw
  obtain ⟨a, b, c, d, rfl, h1, h2, h3, h4⟩ := wf_form h
  have hc : ∀ w1 : World, Calls Tryd.prog 46 #[sv a b c d, .int .i64 i, .func (.func 47) #[] #[]] w1 fun e w' => e = .returned (sv a' b' c' d') ∧ Below w1.heap.size w1 w' := by
    intro w1
    by_cases hi : 0 ≤ i ∧ i < 256
    · obtain ⟨n, rfl⟩ := Int.eq_ofNat_of_zero_le hi.1
      have e : n = 64 * (n / 64) + n % 64 := by omega
      have := with_add a b c d (n / 64) (n % 64) w1 h1 h2 h3 h4 (by omega) (Nat.mod_lt _ (by omega)) a' b' c' d' (by
        unfold addI at hS
        rw [if_pos hi, Int.toNat_natCast] at hS
        exact hS)
      rw [← e] at this
      exact this
    · unfold addI at hS
      rw [if_neg hi] at hS
      cases hS
      exact with_no _ _ _ _ i _ w1 (by omega)
  rw [hS]
  have HC := Lib.hid hc
  clear hc hw hS
  unfold sv at HC
  show Calls Tryd.prog 30 #[sv a b c d, .int .i64 i] w fun e w' => e = .returned (sv a' b' c' d') ∧ Below w.heap.size w w'
  unfold sv
  go_enter Tryd.func30, Tryd.ntmps30
  go_wp2_with fail
  refine (HC.out _).mono ?_
  rintro e w1 ⟨rfl, hb⟩
  have c0 : w1.cell? ⟨w.heap.size + 1, 0, none⟩ = some (.int .u64 0) := (hb.cell (p := ⟨_, 0, none⟩) (by simp)).trans (by go_simp)
  have c1 : w1.cell? ⟨w.heap.size + 1, 1, none⟩ = some (.int .u64 0) := (hb.cell (p := ⟨_, 1, none⟩) (by simp)).trans (by go_simp)
  have c2 : w1.cell? ⟨w.heap.size + 1, 2, none⟩ = some (.int .u64 0) := (hb.cell (p := ⟨_, 2, none⟩) (by simp)).trans (by go_simp)
  have c3 : w1.cell? ⟨w.heap.size + 1, 3, none⟩ = some (.int .u64 0) := (hb.cell (p := ⟨_, 3, none⟩) (by simp)).trans (by go_simp)
  have f0 : w1.frozen? ⟨w.heap.size + 1, 0, none⟩ = false := (hb.frozen (p := ⟨_, 0, none⟩) (by simp)).trans (by go_simp)
  have f1 : w1.frozen? ⟨w.heap.size + 1, 1, none⟩ = false := (hb.frozen (p := ⟨_, 1, none⟩) (by simp)).trans (by go_simp)
  have f2 : w1.frozen? ⟨w.heap.size + 1, 2, none⟩ = false := (hb.frozen (p := ⟨_, 2, none⟩) (by simp)).trans (by go_simp)
  have f3 : w1.frozen? ⟨w.heap.size + 1, 3, none⟩ = false := (hb.frozen (p := ⟨_, 3, none⟩) (by simp)).trans (by go_simp)
  have HB := Lib.hid (fb_call (fb_alloc (fb_alloc (Below.refl _ w) _) _) hb)
  clear hb
  go_wp2
  exact bodyPost_ret (by simp [results, Tryd.results30, go_sem, c0, c1, c2, c3]) rfl ⟨rfl, (((HB.out.setCell (Nat.le_succ _) _).setCell (Nat.le_succ _) _).setCell (Nat.le_succ _) _).setCell (Nat.le_succ _) _⟩
theorem bdel_any {S : List Nat} (h : wfB S) (i : Int) (w : World) : Calls Tryd.prog 32 #[svL S, .int .i64 i] w fun e w' => e = .returned (svL (delI S i)) ∧ Below w.heap.size w w' := by
  have hw := wf_delI h i
  obtain ⟨a', b', c', d', hS, _⟩ := wf_form hw
  obtain ⟨a, b, c, d, rfl, h1, h2, h3, h4⟩ := wf_form h
  have hc : ∀ w1 : World, Calls Tryd.prog 46 #[sv a b c d, .int .i64 i, .func (.func 48) #[] #[]] w1 fun e w' => e = .returned (sv a' b' c' d') ∧ Below w1.heap.size w1 w' := by
    intro w1
    by_cases hi : 0 ≤ i ∧ i < 256
    · obtain ⟨n, rfl⟩ := Int.eq_ofNat_of_zero_le hi.1
      have e : n = 64 * (n / 64) + n % 64 := by omega
      have := with_del a b c d (n / 64) (n % 64) w1 h1 h2 h3 h4 (by omega) (Nat.mod_lt _ (by omega)) a' b' c' d' (by
        unfold delI at hS
        rw [if_pos hi, Int.toNat_natCast] at hS
        exact hS)
      rw [← e] at this
      exact this
    · unfold delI at hS
      rw [if_neg hi] at hS
      cases hS
      exact with_no _ _ _ _ i _ w1 (by omega)
  rw [hS]
  have HC := Lib.hid hc
  clear hc hw hS
  unfold sv at HC
  show Calls Tryd.prog 32 #[sv a b c d, .int .i64 i] w fun e w' => e = .returned (sv a' b' c' d') ∧ Below w.heap.size w w'
  unfold sv
  go_enter Tryd.func32, Tryd.ntmps32
  go_wp2_with fail
  refine (HC.out _).mono ?_
  rintro e w1 ⟨rfl, hb⟩
  have c0 : w1.cell? ⟨w.heap.size + 1, 0, none⟩ = some (.int .u64 0) := (hb.cell (p := ⟨_, 0, none⟩) (by simp)).trans (by go_simp)
  have c1 : w1.cell? ⟨w.heap.size + 1, 1, none⟩ = some (.int .u64 0) := (hb.cell (p := ⟨_, 1, none⟩) (by simp)).trans (by go_simp)
  have c2 : w1.cell? ⟨w.heap.size + 1, 2, none⟩ = some (.int .u64 0) := (hb.cell (p := ⟨_, 2, none⟩) (by simp)).trans (by go_simp)
  have c3 : w1.cell? ⟨w.heap.size + 1, 3, none⟩ = some (.int .u64 0) := (hb.cell (p := ⟨_, 3, none⟩) (by simp)).trans (by go_simp)
  have f0 : w1.frozen? ⟨w.heap.size + 1, 0, none⟩ = false := (hb.frozen (p := ⟨_, 0, none⟩) (by simp)).trans (by go_simp)
  have f1 : w1.frozen? ⟨w.heap.size + 1, 1, none⟩ = false := (hb.frozen (p := ⟨_, 1, none⟩) (by simp)).trans (by go_simp)
  have f2 : w1.frozen? ⟨w.heap.size + 1, 2, none⟩ = false := (hb.frozen (p := ⟨_, 2, none⟩) (by simp)).trans (by go_simp)
  have f3 : w1.frozen? ⟨w.heap.size + 1, 3, none⟩ = false := (hb.frozen (p := ⟨_, 3, none⟩) (by simp)).trans (by go_simp)
  have HB := Lib.hid (fb_call (fb_alloc (fb_alloc (Below.refl _ w) _) _) hb)
  clear hb
  go_wp2
  exact bodyPost_ret (by simp [results, Tryd.results32, go_sem, c0, c1, c2, c3]) rfl ⟨rfl, (((HB.out.setCell (Nat.le_succ _) _).setCell (Nat.le_succ _) _).setCell (Nat.le_succ _) _).setCell (Nat.le_succ _) _⟩
/-- The library's table, in its variable. -/
def TabAt (w : World) : Prop := ∀ j, j < Lib.deBruijn64tab.length → w.cell? ⟨0, j, none⟩ = some (.int .u8 (Lib.deBruijn64tab.getD j 0))
theorem TabAt.below {w w' : World} (h : TabAt w) (h0 : 0 < w.heap.size) (hb : Below w.heap.size w w') : TabAt w' := fun j hj => (hb.cell (p := ⟨0, j, none⟩) h0).trans (h j hj)
set_option maxHeartbeats 1000000 in
theorem tz64_core (x k idx : Nat) (w : World) (hx0 : ((x : Int) == 0) = false)
    (key : IntKind.u64.wrap (bits BinOp.and IntKind.u64 (x : Int) (IntKind.u64.wrap (-(x : Int))) * 285870213051353865) / 288230376151711744 = (idx : Int))
    (hi : idx < 64) (hk : k < 64) (hcell : w.cell? ⟨0, idx, none⟩ = some (.int .u8 k)) :
    Calls Tryd.prog 61 #[.int .u64 x] w fun e w' => e = .returned (.int .i64 k) ∧ w = w' := by
  go_enter Tryd.func61, Tryd.ntmps61
  go_wp2_with (simp only [key])
  go_ret
  exact ⟨rfl, rfl⟩
theorem tz64_key (x a : Nat) (hx : x < 18446744073709551616) (hx0 : x ≠ 0) (hlow : x &&& (18446744073709551616 - x) = a) :
    IntKind.u64.wrap (bits BinOp.and IntKind.u64 (x : Int) (IntKind.u64.wrap (-(x : Int))) * 285870213051353865) / 288230376151711744 = ((a * 285870213051353865 % 18446744073709551616 / 288230376151711744 : Nat) : Int) := by
  have hw : ∀ n, IntKind.u64.wrap n = n % 18446744073709551616 := fun n => by simp [IntKind.wrap, IntKind.bits, IntKind.signed]
  have e1 : IntKind.u64.wrap (-(x : Int)) = ((18446744073709551616 - x : Nat) : Int) := by rw [hw]; omega
  rw [e1, bits_and_u64_nat x _ hx (by omega), hlow, hw]
  omega
theorem tz64_any (x : Nat) (hx : x < 18446744073709551616) (hx0 : x ≠ 0) (w : World) (hT : TabAt w) :
    Calls Tryd.prog 61 #[.int .u64 x] w fun e w' => e = .returned (.int .i64 (Lib.ctz 64 x)) ∧ w = w' := by
  obtain ⟨hlow, hk⟩ := Lib.lowest_bit 64 x hx0 hx
  obtain ⟨hi, htab⟩ := Lib.deBruijn64_at _ hk
  have hcell := hT _ hi
  rw [htab] at hcell
  exact tz64_core x _ _ w (by simp; omega) (tz64_key x _ hx hx0 hlow) hi hk hcell
/-- What Next answers. -/
def NextPost (S : List Nat) (i : Nat) (w : World) (e : Ending) (w' : World) : Prop := ∃ v : Int, e = .returned (.int .i64 v) ∧ NextR S i v ∧ Below w.heap.size w w'
set_option maxHeartbeats 2000000 in
set_option maxRecDepth 100000 in
theorem next_pos (a b c d : Nat) (n : Nat) (w : World) (h1 : a < 2 ^ 64) (h2 : b < 2 ^ 64) (h3 : c < 2 ^ 64) (h4 : d < 2 ^ 64) (hnb : n ≤ 9223372036854775807) (hT : TabAt w) (h0 : 0 < w.heap.size) :
    Calls Tryd.prog 57 #[sv a b c d, .int .i64 (n : Int)] w (NextPost [a, b, c, d] n w) := by
  have HT : Hid (TabAt (w.alloc (.cells #[.int .u64 a, .int .u64 b, .int .u64 c, .int .u64 d] 48))) := hT.below h0 (fb_alloc (Below.refl _ w) _)
  clear hT
  unfold sv
  go_enter Tryd.func57, Tryd.ntmps57
  go_wp2
  go_loop [1] (fun v => ∃ j : Nat, n ≤ j ∧ (256 ≤ n → j = n) ∧ (n < 256 → j ≤ 256) ∧ v = .int .i64 j ∧ Hid (∀ k, n ≤ k → k < j → hasS [a, b, c, d] k = false)) (fun v => 256 - (intOf v).toNat)
  case atStart => exact ⟨n, Nat.le_refl _, fun _ => rfl, fun h => by omega, rfl, fun k h h' => by omega⟩
  case round =>
    obtain ⟨j, hj1, hj2, hj3, rfl, hno⟩ := hrel
    by_cases hlt : j < 256
    · obtain ⟨q, hq⟩ : ∃ q, j / 64 = q := ⟨_, rfl⟩
      obtain ⟨r, hr⟩ : ∃ r, j % 64 = r := ⟨_, rfl⟩
      have hq' : (j : Int) / 64 = (q : Int) := by omega
      have hr' : (j : Int) % 64 = (r : Int) := by omega
      have hjq : j = 64 * q + r := by omega
      have hr64 : r < 64 := by omega
      have hqs : q = 0 ∨ q = 1 ∨ q = 2 ∨ q = 3 := by omega
      have HJ := Lib.hid (And.intro hjq hj1)
      clear hq hr hj2 hj3 hjq hj1
      have hhas : ∀ k, k < 64 → hasS [a, b, c, d] (64 * q + k) = ([a, b, c, d].getD q 0).testBit k := fun k hk => by unfold hasS; rw [show (64 * q + k) / 64 = q by omega, show (64 * q + k) % 64 = k by omega]
      have HH := Lib.hid hhas
      clear hhas
      rcases hqs with rfl | rfl | rfl | rfl
      · by_cases hz : a / 2 ^ r = 0
        · have hw0 : ((a : Int) / 2 ^ r == 0) = true := by rw [show (a : Int) / 2 ^ r = ((a / 2 ^ r : Nat) : Int) by simp, hz]; rfl
          have hw1 : ((a : Int) / 2 ^ r != 0) = false := by rw [bne, hw0]; rfl
          have hf := word_zero a r hz
          have HF := Lib.hid hf
          clear hf hz
          go_wp2
          go_round
          case rel =>
            have hjq := HJ.out.1
            refine ⟨64 * (0 + 1), by have := HJ.out.2; omega, fun h => by have := HJ.out.2; omega, fun _ => by omega, by rw [show (j : Int) = 64 * 0 + r by omega]; congr 1; omega, fun k k1 k2 => ?_⟩
            rcases Nat.lt_or_ge k j with h5 | h5
            · exact hno.out k k1 h5
            · have h6 := HH.out (k - 64 * 0) (by omega)
              rw [show 64 * 0 + (k - 64 * 0) = k by omega] at h6
              rw [h6]
              exact HF.out _ (by omega)
          case measure => have hjq := HJ.out.1; simp [intOf]; omega
        · obtain ⟨g1, g2, g3⟩ := word_first a r h1 hz
          obtain ⟨y, hy⟩ : ∃ y, a / 2 ^ r = y := ⟨_, rfl⟩
          rw [hy] at g1 g2 g3 hz
          have hy64 : y < 18446744073709551616 := by rw [← hy]; exact Nat.lt_of_le_of_lt (Nat.div_le_self _ _) h1
          have hyI : (a : Int) / 2 ^ r = (y : Int) := by rw [← hy]; simp
          have hw0 : ((y : Int) == 0) = false := by rw [beq_eq_false_iff_ne]; omega
          have hw1 : ((y : Int) != 0) = true := by rw [bne, hw0]; rfl
          have hC := tz64_any y hy64 hz _ HT.out
          obtain ⟨t, ht⟩ : ∃ t, Lib.ctz 64 y = t := ⟨_, rfl⟩
          rw [ht] at g1 g2 g3 hC
          have HG := Lib.hid (And.intro g1 g3)
          have HC := Lib.hid hC
          clear g1 g3 hy ht hC
          go_wp2_with (go_at_call 61; refine HC.out.mono ?_; rintro e w' ⟨rfl, rfl⟩)
          go_ret
          have hjq := HJ.out.1
          refine ⟨((64 * 0 + (r + t) : Nat) : Int), ret_i64 (by omega), .inr ⟨64 * 0 + (r + t), rfl, by have := HJ.out.2; omega, by omega, ?_, fun k k1 k2 => ?_⟩, fb_alloc (Below.refl _ w) _⟩
          · rw [HH.out (r + t) g2]; exact HG.out.1
          · rcases Nat.lt_or_ge k j with h5 | h5
            · exact hno.out k k1 h5
            · have h6 := HH.out (k - 64 * 0) (by omega)
              rw [show 64 * 0 + (k - 64 * 0) = k by omega] at h6
              rw [h6]
              exact HG.out.2 _ (by omega) (by omega)
      · by_cases hz : b / 2 ^ r = 0
        · have hw0 : ((b : Int) / 2 ^ r == 0) = true := by rw [show (b : Int) / 2 ^ r = ((b / 2 ^ r : Nat) : Int) by simp, hz]; rfl
          have hw1 : ((b : Int) / 2 ^ r != 0) = false := by rw [bne, hw0]; rfl
          have hf := word_zero b r hz
          have HF := Lib.hid hf
          clear hf hz
          go_wp2
          go_round
          case rel =>
            have hjq := HJ.out.1
            refine ⟨64 * (1 + 1), by have := HJ.out.2; omega, fun h => by have := HJ.out.2; omega, fun _ => by omega, by rw [show (j : Int) = 64 * 1 + r by omega]; congr 1; omega, fun k k1 k2 => ?_⟩
            rcases Nat.lt_or_ge k j with h5 | h5
            · exact hno.out k k1 h5
            · have h6 := HH.out (k - 64 * 1) (by omega)
              rw [show 64 * 1 + (k - 64 * 1) = k by omega] at h6
              rw [h6]
              exact HF.out _ (by omega)
          case measure => have hjq := HJ.out.1; simp [intOf]; omega
        · obtain ⟨g1, g2, g3⟩ := word_first b r h2 hz
          obtain ⟨y, hy⟩ : ∃ y, b / 2 ^ r = y := ⟨_, rfl⟩
          rw [hy] at g1 g2 g3 hz
          have hy64 : y < 18446744073709551616 := by rw [← hy]; exact Nat.lt_of_le_of_lt (Nat.div_le_self _ _) h2
          have hyI : (b : Int) / 2 ^ r = (y : Int) := by rw [← hy]; simp
          have hw0 : ((y : Int) == 0) = false := by rw [beq_eq_false_iff_ne]; omega
          have hw1 : ((y : Int) != 0) = true := by rw [bne, hw0]; rfl
          have hC := tz64_any y hy64 hz _ HT.out
          obtain ⟨t, ht⟩ : ∃ t, Lib.ctz 64 y = t := ⟨_, rfl⟩
          rw [ht] at g1 g2 g3 hC
          have HG := Lib.hid (And.intro g1 g3)
          have HC := Lib.hid hC
          clear g1 g3 hy ht hC
          go_wp2_with (go_at_call 61; refine HC.out.mono ?_; rintro e w' ⟨rfl, rfl⟩)
          go_ret
          have hjq := HJ.out.1
          refine ⟨((64 * 1 + (r + t) : Nat) : Int), ret_i64 (by omega), .inr ⟨64 * 1 + (r + t), rfl, by have := HJ.out.2; omega, by omega, ?_, fun k k1 k2 => ?_⟩, fb_alloc (Below.refl _ w) _⟩
          · rw [HH.out (r + t) g2]; exact HG.out.1
          · rcases Nat.lt_or_ge k j with h5 | h5
            · exact hno.out k k1 h5
            · have h6 := HH.out (k - 64 * 1) (by omega)
              rw [show 64 * 1 + (k - 64 * 1) = k by omega] at h6
              rw [h6]
              exact HG.out.2 _ (by omega) (by omega)
      · by_cases hz : c / 2 ^ r = 0
        · have hw0 : ((c : Int) / 2 ^ r == 0) = true := by rw [show (c : Int) / 2 ^ r = ((c / 2 ^ r : Nat) : Int) by simp, hz]; rfl
          have hw1 : ((c : Int) / 2 ^ r != 0) = false := by rw [bne, hw0]; rfl
          have hf := word_zero c r hz
          have HF := Lib.hid hf
          clear hf hz
          go_wp2
          go_round
          case rel =>
            have hjq := HJ.out.1
            refine ⟨64 * (2 + 1), by have := HJ.out.2; omega, fun h => by have := HJ.out.2; omega, fun _ => by omega, by rw [show (j : Int) = 64 * 2 + r by omega]; congr 1; omega, fun k k1 k2 => ?_⟩
            rcases Nat.lt_or_ge k j with h5 | h5
            · exact hno.out k k1 h5
            · have h6 := HH.out (k - 64 * 2) (by omega)
              rw [show 64 * 2 + (k - 64 * 2) = k by omega] at h6
              rw [h6]
              exact HF.out _ (by omega)
          case measure => have hjq := HJ.out.1; simp [intOf]; omega
        · obtain ⟨g1, g2, g3⟩ := word_first c r h3 hz
          obtain ⟨y, hy⟩ : ∃ y, c / 2 ^ r = y := ⟨_, rfl⟩
          rw [hy] at g1 g2 g3 hz
          have hy64 : y < 18446744073709551616 := by rw [← hy]; exact Nat.lt_of_le_of_lt (Nat.div_le_self _ _) h3
          have hyI : (c : Int) / 2 ^ r = (y : Int) := by rw [← hy]; simp
          have hw0 : ((y : Int) == 0) = false := by rw [beq_eq_false_iff_ne]; omega
          have hw1 : ((y : Int) != 0) = true := by rw [bne, hw0]; rfl
          have hC := tz64_any y hy64 hz _ HT.out
          obtain ⟨t, ht⟩ : ∃ t, Lib.ctz 64 y = t := ⟨_, rfl⟩
          rw [ht] at g1 g2 g3 hC
          have HG := Lib.hid (And.intro g1 g3)
          have HC := Lib.hid hC
          clear g1 g3 hy ht hC
          go_wp2_with (go_at_call 61; refine HC.out.mono ?_; rintro e w' ⟨rfl, rfl⟩)
          go_ret
          have hjq := HJ.out.1
          refine ⟨((64 * 2 + (r + t) : Nat) : Int), ret_i64 (by omega), .inr ⟨64 * 2 + (r + t), rfl, by have := HJ.out.2; omega, by omega, ?_, fun k k1 k2 => ?_⟩, fb_alloc (Below.refl _ w) _⟩
          · rw [HH.out (r + t) g2]; exact HG.out.1
          · rcases Nat.lt_or_ge k j with h5 | h5
            · exact hno.out k k1 h5
            · have h6 := HH.out (k - 64 * 2) (by omega)
              rw [show 64 * 2 + (k - 64 * 2) = k by omega] at h6
              rw [h6]
              exact HG.out.2 _ (by omega) (by omega)
      · by_cases hz : d / 2 ^ r = 0
        · have hw0 : ((d : Int) / 2 ^ r == 0) = true := by rw [show (d : Int) / 2 ^ r = ((d / 2 ^ r : Nat) : Int) by simp, hz]; rfl
          have hw1 : ((d : Int) / 2 ^ r != 0) = false := by rw [bne, hw0]; rfl
          have hf := word_zero d r hz
          have HF := Lib.hid hf
          clear hf hz
          go_wp2
          go_round
          case rel =>
            have hjq := HJ.out.1
            refine ⟨64 * (3 + 1), by have := HJ.out.2; omega, fun h => by have := HJ.out.2; omega, fun _ => by omega, by rw [show (j : Int) = 64 * 3 + r by omega]; congr 1; omega, fun k k1 k2 => ?_⟩
            rcases Nat.lt_or_ge k j with h5 | h5
            · exact hno.out k k1 h5
            · have h6 := HH.out (k - 64 * 3) (by omega)
              rw [show 64 * 3 + (k - 64 * 3) = k by omega] at h6
              rw [h6]
              exact HF.out _ (by omega)
          case measure => have hjq := HJ.out.1; simp [intOf]; omega
        · obtain ⟨g1, g2, g3⟩ := word_first d r h4 hz
          obtain ⟨y, hy⟩ : ∃ y, d / 2 ^ r = y := ⟨_, rfl⟩
          rw [hy] at g1 g2 g3 hz
          have hy64 : y < 18446744073709551616 := by rw [← hy]; exact Nat.lt_of_le_of_lt (Nat.div_le_self _ _) h4
          have hyI : (d : Int) / 2 ^ r = (y : Int) := by rw [← hy]; simp
          have hw0 : ((y : Int) == 0) = false := by rw [beq_eq_false_iff_ne]; omega
          have hw1 : ((y : Int) != 0) = true := by rw [bne, hw0]; rfl
          have hC := tz64_any y hy64 hz _ HT.out
          obtain ⟨t, ht⟩ : ∃ t, Lib.ctz 64 y = t := ⟨_, rfl⟩
          rw [ht] at g1 g2 g3 hC
          have HG := Lib.hid (And.intro g1 g3)
          have HC := Lib.hid hC
          clear g1 g3 hy ht hC
          go_wp2_with (go_at_call 61; refine HC.out.mono ?_; rintro e w' ⟨rfl, rfl⟩)
          go_ret
          have hjq := HJ.out.1
          refine ⟨((64 * 3 + (r + t) : Nat) : Int), ret_i64 (by omega), .inr ⟨64 * 3 + (r + t), rfl, by have := HJ.out.2; omega, by omega, ?_, fun k k1 k2 => ?_⟩, fb_alloc (Below.refl _ w) _⟩
          · rw [HH.out (r + t) g2]; exact HG.out.1
          · rcases Nat.lt_or_ge k j with h5 | h5
            · exact hno.out k k1 h5
            · have h6 := HH.out (k - 64 * 3) (by omega)
              rw [show 64 * 3 + (k - 64 * 3) = k by omega] at h6
              rw [h6]
              exact HG.out.2 _ (by omega) (by omega)
    · go_wp2
      go_ret
      exact ⟨-1, rfl, .inl ⟨rfl, fun k k1 k2 => hno.out k k1 (by omega)⟩, fb_alloc (Below.refl _ w) _⟩
set_option maxHeartbeats 2000000 in
set_option maxRecDepth 100000 in
theorem next_neg (a b c d : Nat) (i : Int) (w : World) (h1 : a < 2 ^ 64) (h2 : b < 2 ^ 64) (h3 : c < 2 ^ 64) (h4 : d < 2 ^ 64) (hi : i < 0) (hT : TabAt w) (h0 : 0 < w.heap.size) :
    Calls Tryd.prog 57 #[sv a b c d, .int .i64 i] w (NextPost [a, b, c, d] 0 w) := by
  have HT : Hid (TabAt (w.alloc (.cells #[.int .u64 a, .int .u64 b, .int .u64 c, .int .u64 d] 48))) := hT.below h0 (fb_alloc (Below.refl _ w) _)
  clear hT
  unfold sv
  go_enter Tryd.func57, Tryd.ntmps57
  go_wp2
  go_loop [1] (fun v => ∃ j : Nat, 0 ≤ j ∧ (256 ≤ 0 → j = 0) ∧ (0 < 256 → j ≤ 256) ∧ v = .int .i64 j ∧ Hid (∀ k, 0 ≤ k → k < j → hasS [a, b, c, d] k = false)) (fun v => 256 - (intOf v).toNat)
  case atStart => exact ⟨0, Nat.le_refl _, fun _ => rfl, fun h => by omega, rfl, fun k h h' => by omega⟩
  case round =>
    obtain ⟨j, hj1, hj2, hj3, rfl, hno⟩ := hrel
    by_cases hlt : j < 256
    · obtain ⟨q, hq⟩ : ∃ q, j / 64 = q := ⟨_, rfl⟩
      obtain ⟨r, hr⟩ : ∃ r, j % 64 = r := ⟨_, rfl⟩
      have hq' : (j : Int) / 64 = (q : Int) := by omega
      have hr' : (j : Int) % 64 = (r : Int) := by omega
      have hjq : j = 64 * q + r := by omega
      have hr64 : r < 64 := by omega
      have hqs : q = 0 ∨ q = 1 ∨ q = 2 ∨ q = 3 := by omega
      have HJ := Lib.hid (And.intro hjq hj1)
      clear hq hr hj2 hj3 hjq hj1
      have hhas : ∀ k, k < 64 → hasS [a, b, c, d] (64 * q + k) = ([a, b, c, d].getD q 0).testBit k := fun k hk => by unfold hasS; rw [show (64 * q + k) / 64 = q by omega, show (64 * q + k) % 64 = k by omega]
      have HH := Lib.hid hhas
      clear hhas
      rcases hqs with rfl | rfl | rfl | rfl
      · by_cases hz : a / 2 ^ r = 0
        · have hw0 : ((a : Int) / 2 ^ r == 0) = true := by rw [show (a : Int) / 2 ^ r = ((a / 2 ^ r : Nat) : Int) by simp, hz]; rfl
          have hw1 : ((a : Int) / 2 ^ r != 0) = false := by rw [bne, hw0]; rfl
          have hf := word_zero a r hz
          have HF := Lib.hid hf
          clear hf hz
          go_wp2
          go_round
          case rel =>
            have hjq := HJ.out.1
            refine ⟨64 * (0 + 1), by have := HJ.out.2; omega, fun h => by have := HJ.out.2; omega, fun _ => by omega, by rw [show (j : Int) = 64 * 0 + r by omega]; congr 1; omega, fun k k1 k2 => ?_⟩
            rcases Nat.lt_or_ge k j with h5 | h5
            · exact hno.out k k1 h5
            · have h6 := HH.out (k - 64 * 0) (by omega)
              rw [show 64 * 0 + (k - 64 * 0) = k by omega] at h6
              rw [h6]
              exact HF.out _ (by omega)
          case measure => have hjq := HJ.out.1; simp [intOf]; omega
        · obtain ⟨g1, g2, g3⟩ := word_first a r h1 hz
          obtain ⟨y, hy⟩ : ∃ y, a / 2 ^ r = y := ⟨_, rfl⟩
          rw [hy] at g1 g2 g3 hz
          have hy64 : y < 18446744073709551616 := by rw [← hy]; exact Nat.lt_of_le_of_lt (Nat.div_le_self _ _) h1
          have hyI : (a : Int) / 2 ^ r = (y : Int) := by rw [← hy]; simp
          have hw0 : ((y : Int) == 0) = false := by rw [beq_eq_false_iff_ne]; omega
          have hw1 : ((y : Int) != 0) = true := by rw [bne, hw0]; rfl
          have hC := tz64_any y hy64 hz _ HT.out
          obtain ⟨t, ht⟩ : ∃ t, Lib.ctz 64 y = t := ⟨_, rfl⟩
          rw [ht] at g1 g2 g3 hC
          have HG := Lib.hid (And.intro g1 g3)
          have HC := Lib.hid hC
          clear g1 g3 hy ht hC
          go_wp2_with (go_at_call 61; refine HC.out.mono ?_; rintro e w' ⟨rfl, rfl⟩)
          go_ret
          have hjq := HJ.out.1
          refine ⟨((64 * 0 + (r + t) : Nat) : Int), ret_i64 (by omega), .inr ⟨64 * 0 + (r + t), rfl, by have := HJ.out.2; omega, by omega, ?_, fun k k1 k2 => ?_⟩, fb_alloc (Below.refl _ w) _⟩
          · rw [HH.out (r + t) g2]; exact HG.out.1
          · rcases Nat.lt_or_ge k j with h5 | h5
            · exact hno.out k k1 h5
            · have h6 := HH.out (k - 64 * 0) (by omega)
              rw [show 64 * 0 + (k - 64 * 0) = k by omega] at h6
              rw [h6]
              exact HG.out.2 _ (by omega) (by omega)
      · by_cases hz : b / 2 ^ r = 0
        · have hw0 : ((b : Int) / 2 ^ r == 0) = true := by rw [show (b : Int) / 2 ^ r = ((b / 2 ^ r : Nat) : Int) by simp, hz]; rfl
          have hw1 : ((b : Int) / 2 ^ r != 0) = false := by rw [bne, hw0]; rfl
          have hf := word_zero b r hz
          have HF := Lib.hid hf
          clear hf hz
          go_wp2
          go_round
          case rel =>
            have hjq := HJ.out.1
            refine ⟨64 * (1 + 1), by have := HJ.out.2; omega, fun h => by have := HJ.out.2; omega, fun _ => by omega, by rw [show (j : Int) = 64 * 1 + r by omega]; congr 1; omega, fun k k1 k2 => ?_⟩
            rcases Nat.lt_or_ge k j with h5 | h5
            · exact hno.out k k1 h5
            · have h6 := HH.out (k - 64 * 1) (by omega)
              rw [show 64 * 1 + (k - 64 * 1) = k by omega] at h6
              rw [h6]
              exact HF.out _ (by omega)
          case measure => have hjq := HJ.out.1; simp [intOf]; omega
        · obtain ⟨g1, g2, g3⟩ := word_first b r h2 hz
          obtain ⟨y, hy⟩ : ∃ y, b / 2 ^ r = y := ⟨_, rfl⟩
          rw [hy] at g1 g2 g3 hz
          have hy64 : y < 18446744073709551616 := by rw [← hy]; exact Nat.lt_of_le_of_lt (Nat.div_le_self _ _) h2
          have hyI : (b : Int) / 2 ^ r = (y : Int) := by rw [← hy]; simp
          have hw0 : ((y : Int) == 0) = false := by rw [beq_eq_false_iff_ne]; omega
          have hw1 : ((y : Int) != 0) = true := by rw [bne, hw0]; rfl
          have hC := tz64_any y hy64 hz _ HT.out
          obtain ⟨t, ht⟩ : ∃ t, Lib.ctz 64 y = t := ⟨_, rfl⟩
          rw [ht] at g1 g2 g3 hC
          have HG := Lib.hid (And.intro g1 g3)
          have HC := Lib.hid hC
          clear g1 g3 hy ht hC
          go_wp2_with (go_at_call 61; refine HC.out.mono ?_; rintro e w' ⟨rfl, rfl⟩)
          go_ret
          have hjq := HJ.out.1
          refine ⟨((64 * 1 + (r + t) : Nat) : Int), ret_i64 (by omega), .inr ⟨64 * 1 + (r + t), rfl, by have := HJ.out.2; omega, by omega, ?_, fun k k1 k2 => ?_⟩, fb_alloc (Below.refl _ w) _⟩
          · rw [HH.out (r + t) g2]; exact HG.out.1
          · rcases Nat.lt_or_ge k j with h5 | h5
            · exact hno.out k k1 h5
            · have h6 := HH.out (k - 64 * 1) (by omega)
              rw [show 64 * 1 + (k - 64 * 1) = k by omega] at h6
              rw [h6]
              exact HG.out.2 _ (by omega) (by omega)
      · by_cases hz : c / 2 ^ r = 0
        · have hw0 : ((c : Int) / 2 ^ r == 0) = true := by rw [show (c : Int) / 2 ^ r = ((c / 2 ^ r : Nat) : Int) by simp, hz]; rfl
          have hw1 : ((c : Int) / 2 ^ r != 0) = false := by rw [bne, hw0]; rfl
          have hf := word_zero c r hz
          have HF := Lib.hid hf
          clear hf hz
          go_wp2
          go_round
          case rel =>
            have hjq := HJ.out.1
            refine ⟨64 * (2 + 1), by have := HJ.out.2; omega, fun h => by have := HJ.out.2; omega, fun _ => by omega, by rw [show (j : Int) = 64 * 2 + r by omega]; congr 1; omega, fun k k1 k2 => ?_⟩
            rcases Nat.lt_or_ge k j with h5 | h5
            · exact hno.out k k1 h5
            · have h6 := HH.out (k - 64 * 2) (by omega)
              rw [show 64 * 2 + (k - 64 * 2) = k by omega] at h6
              rw [h6]
              exact HF.out _ (by omega)
          case measure => have hjq := HJ.out.1; simp [intOf]; omega
        · obtain ⟨g1, g2, g3⟩ := word_first c r h3 hz
          obtain ⟨y, hy⟩ : ∃ y, c / 2 ^ r = y := ⟨_, rfl⟩
          rw [hy] at g1 g2 g3 hz
          have hy64 : y < 18446744073709551616 := by rw [← hy]; exact Nat.lt_of_le_of_lt (Nat.div_le_self _ _) h3
          have hyI : (c : Int) / 2 ^ r = (y : Int) := by rw [← hy]; simp
          have hw0 : ((y : Int) == 0) = false := by rw [beq_eq_false_iff_ne]; omega
          have hw1 : ((y : Int) != 0) = true := by rw [bne, hw0]; rfl
          have hC := tz64_any y hy64 hz _ HT.out
          obtain ⟨t, ht⟩ : ∃ t, Lib.ctz 64 y = t := ⟨_, rfl⟩
          rw [ht] at g1 g2 g3 hC
          have HG := Lib.hid (And.intro g1 g3)
          have HC := Lib.hid hC
          clear g1 g3 hy ht hC
          go_wp2_with (go_at_call 61; refine HC.out.mono ?_; rintro e w' ⟨rfl, rfl⟩)
          go_ret
          have hjq := HJ.out.1
          refine ⟨((64 * 2 + (r + t) : Nat) : Int), ret_i64 (by omega), .inr ⟨64 * 2 + (r + t), rfl, by have := HJ.out.2; omega, by omega, ?_, fun k k1 k2 => ?_⟩, fb_alloc (Below.refl _ w) _⟩
          · rw [HH.out (r + t) g2]; exact HG.out.1
          · rcases Nat.lt_or_ge k j with h5 | h5
            · exact hno.out k k1 h5
            · have h6 := HH.out (k - 64 * 2) (by omega)
              rw [show 64 * 2 + (k - 64 * 2) = k by omega] at h6
              rw [h6]
              exact HG.out.2 _ (by omega) (by omega)
      · by_cases hz : d / 2 ^ r = 0
        · have hw0 : ((d : Int) / 2 ^ r == 0) = true := by rw [show (d : Int) / 2 ^ r = ((d / 2 ^ r : Nat) : Int) by simp, hz]; rfl
          have hw1 : ((d : Int) / 2 ^ r != 0) = false := by rw [bne, hw0]; rfl
          have hf := word_zero d r hz
          have HF := Lib.hid hf
          clear hf hz
          go_wp2
          go_round
          case rel =>
            have hjq := HJ.out.1
            refine ⟨64 * (3 + 1), by have := HJ.out.2; omega, fun h => by have := HJ.out.2; omega, fun _ => by omega, by rw [show (j : Int) = 64 * 3 + r by omega]; congr 1; omega, fun k k1 k2 => ?_⟩
            rcases Nat.lt_or_ge k j with h5 | h5
            · exact hno.out k k1 h5
            · have h6 := HH.out (k - 64 * 3) (by omega)
              rw [show 64 * 3 + (k - 64 * 3) = k by omega] at h6
              rw [h6]
              exact HF.out _ (by omega)
          case measure => have hjq := HJ.out.1; simp [intOf]; omega
        · obtain ⟨g1, g2, g3⟩ := word_first d r h4 hz
          obtain ⟨y, hy⟩ : ∃ y, d / 2 ^ r = y := ⟨_, rfl⟩
          rw [hy] at g1 g2 g3 hz
          have hy64 : y < 18446744073709551616 := by rw [← hy]; exact Nat.lt_of_le_of_lt (Nat.div_le_self _ _) h4
          have hyI : (d : Int) / 2 ^ r = (y : Int) := by rw [← hy]; simp
          have hw0 : ((y : Int) == 0) = false := by rw [beq_eq_false_iff_ne]; omega
          have hw1 : ((y : Int) != 0) = true := by rw [bne, hw0]; rfl
          have hC := tz64_any y hy64 hz _ HT.out
          obtain ⟨t, ht⟩ : ∃ t, Lib.ctz 64 y = t := ⟨_, rfl⟩
          rw [ht] at g1 g2 g3 hC
          have HG := Lib.hid (And.intro g1 g3)
          have HC := Lib.hid hC
          clear g1 g3 hy ht hC
          go_wp2_with (go_at_call 61; refine HC.out.mono ?_; rintro e w' ⟨rfl, rfl⟩)
          go_ret
          have hjq := HJ.out.1
          refine ⟨((64 * 3 + (r + t) : Nat) : Int), ret_i64 (by omega), .inr ⟨64 * 3 + (r + t), rfl, by have := HJ.out.2; omega, by omega, ?_, fun k k1 k2 => ?_⟩, fb_alloc (Below.refl _ w) _⟩
          · rw [HH.out (r + t) g2]; exact HG.out.1
          · rcases Nat.lt_or_ge k j with h5 | h5
            · exact hno.out k k1 h5
            · have h6 := HH.out (k - 64 * 3) (by omega)
              rw [show 64 * 3 + (k - 64 * 3) = k by omega] at h6
              rw [h6]
              exact HG.out.2 _ (by omega) (by omega)
    · go_wp2
      go_ret
      exact ⟨-1, rfl, .inl ⟨rfl, fun k k1 k2 => hno.out k k1 (by omega)⟩, fb_alloc (Below.refl _ w) _⟩
theorem bnext_any {S : List Nat} (h : wfB S) (i : Int) (hi : i ≤ 9223372036854775807) (w : World) (hT : TabAt w) (h0 : 0 < w.heap.size) :
    Calls Tryd.prog 57 #[svL S, .int .i64 i] w (NextPost S i.toNat w) := by
  obtain ⟨a, b, c, d, rfl, h1, h2, h3, h4⟩ := wf_form h
  by_cases hn : i < 0
  · rw [show i.toNat = 0 by omega]
    exact next_neg a b c d i w h1 h2 h3 h4 hn hT h0
  · obtain ⟨n, rfl⟩ := Int.eq_ofNat_of_zero_le (show 0 ≤ i by omega)
    exact next_pos a b c d n w h1 h2 h3 h4 (by omega) hT h0
end Go.Proofs.YtcgadmeagbcbnaaDoor
