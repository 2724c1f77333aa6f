/- The walk of BitsKnown. -/
import Derived.Test.YtikoabnonmkhkaaDoorBitsR
namespace Go.Proofs.YtikoabnonmkhkaaDoor
open Go.RowKit
attribute [local irreducible] Calls

def FULL : List Nat := [18446744073709551615, 18446744073709551615, 18446744073709551615, 18446744073709551615]
theorem wf_full : wfB FULL := wf_mk (by omega) (by omega) (by omega) (by omega)
theorem has_full : (List.range 256).all (hasB FULL) = true := by kernel_rfl
theorem has_full' {j : Nat} (hj : j < 256) : hasB FULL j = true := List.all_eq_true.1 has_full j (List.mem_range.2 hj)
theorem lst_zero : lst [0, 0, 0, 0] = [] := by kernel_rfl
theorem len_zero : (((lst [0, 0, 0, 0]).length : Nat) : Int) = 0 := by rw [lst_zero]; rfl
theorem len_lst_full : (lst FULL).length = 256 := by
  have key : ∀ n, n ≤ 256 → (lstTo FULL n).length = n := by
    intro n
    induction n with
    | zero => exact fun _ => rfl
    | succ n ih => intro h; rw [lstTo_succ, has_full' (by omega), if_pos rfl, List.length_append, ih (by omega)]; rfl
  exact key 256 (Nat.le_refl _)
theorem len_full : (((lst FULL).length : Nat) : Int) = 256 := by rw [len_lst_full]; rfl
theorem next_zero : NextR [0, 0, 0, 0] 0 (-1) := .inl ⟨rfl, fun k _ _ => has_zero k⟩
theorem next_high (S : List Nat) (i : Nat) (h : 256 ≤ i) : NextR S i (-1) := .inl ⟨rfl, fun k h1 h2 => by omega⟩
theorem next_full {i : Nat} (h : i < 256) : NextR FULL i i := .inr ⟨i, rfl, Nat.le_refl _, h, has_full' h, fun k h1 h2 => by omega⟩
theorem next_full0 : NextR FULL 0 0 := next_full (i := 0) (by omega)
theorem full_of {S : List Nat} (h : wfB S) (ha : ∀ j, j < 256 → hasB S j = true) : S = FULL := ext_has h wf_full fun i hi => by rw [ha i hi, has_full' hi]
theorem add_zero_len {i : Nat} (hi : i < 256) : (((lst (addI [0, 0, 0, 0] (i : Int))).length : Nat) : Int) = 1 := by
  have key : ∀ n, n ≤ 256 → (lstTo (addI [0, 0, 0, 0] (i : Int)) n).length = if i < n then 1 else 0 := by
    intro n
    induction n with
    | zero => exact fun _ => rfl
    | succ n ih =>
      intro h
      rw [lstTo_succ, has_addI wf_zero i n (by omega), has_zero, Bool.or_false]
      by_cases e : n = i
      · rw [decide_eq_true e, if_pos rfl, List.length_append, ih (by omega), if_neg (by omega), if_pos (by omega)]; rfl
      · rw [decide_eq_false e, if_neg (by simp), ih (by omega)]
        by_cases h2 : i < n
        · rw [if_pos h2, if_pos (by omega)]
        · rw [if_neg h2, if_neg (by omega)]
  have := key 256 (Nat.le_refl _)
  rw [if_pos hi] at this
  show (((lstTo _ 256).length : Nat) : Int) = 1
  rw [this]; rfl
theorem del_full_len {i : Nat} (hi : i < 256) : (((lst (delI FULL (i : Int))).length : Nat) : Int) = 255 := by
  have key : ∀ n, n ≤ 256 → (lstTo (delI FULL (i : Int)) n).length + (if i < n then 1 else 0) = n := by
    intro n
    induction n with
    | zero => exact fun _ => rfl
    | succ n ih =>
      intro h
      have ih := ih (by omega)
      rw [lstTo_succ, has_delI' wf_full i n (by omega), has_full' (by omega), Bool.and_true]
      by_cases e : n = i
      · rw [decide_eq_false (by omega), if_neg (by simp)]
        rw [if_neg (by omega)] at ih
        rw [if_pos (by omega)]; omega
      · rw [decide_eq_true (by omega), if_pos rfl, List.length_append, List.length_singleton]
        by_cases h2 : i < n
        · rw [if_pos h2] at ih; rw [if_pos (by omega)]; omega
        · rw [if_neg h2] at ih; rw [if_neg (by omega)]; omega
  have := key 256 (Nat.le_refl _)
  rw [if_pos hi] at this
  show (((lstTo _ 256).length : Nat) : Int) = 255
  omega
theorem del_add_zero (i : Nat) : delI (addI [0, 0, 0, 0] (i : Int)) (i : Int) = [0, 0, 0, 0] := ext_has (wf_delI (wf_addI wf_zero _) _) wf_zero fun j hj => by
  rw [has_delI' (wf_addI wf_zero _) i j hj, has_addI wf_zero i j hj, has_zero, Bool.or_false]
  by_cases e : j = i
  · rw [decide_eq_false (by omega), Bool.false_and]
  · rw [decide_eq_false e, Bool.and_false]
def DKnown : List (Option Nat) := [some 55, some 56, some 57, some 58, some 59, some 60, some 61, some 62, some 63, some 64, some 65, some 66, some 67, some 68, some 69, some 70, some 71, some 72, some 73, some 74, some 75, some 76, some 77, some 78, some 79, some 80, some 81, some 82, some 83, some 84, some 85, some 86, some 87, some 88, some 89, some 90, some 91, some 92, some 93, some 94, some 95, some 96, some 97, some 98, some 99, some 100, some 101, some 102, some 103, some 104, some 105, some 106, some 107, some 108, some 109, some 110, some 111, some 112, some 113, some 0]
def TLKnown : List TyB := [
  .is (.bool true),
  .is (.bool true),
  .is (.agg #[.int .u64 18446744073709551615, .int .u64 18446744073709551615, .int .u64 18446744073709551615, .int .u64 18446744073709551615]),
  .is (.int .i64 256),
  .is (.bool true),
  .is (.bool true),
  .is (.bool true),
  .is (.agg #[.int .u64 18446744073709551615, .int .u64 18446744073709551615, .int .u64 18446744073709551615, .int .u64 18446744073709551615]),
  .is (.agg #[.int .u64 18446744073709551615, .int .u64 18446744073709551615, .int .u64 18446744073709551615, .int .u64 18446744073709551615]),
  .is (.bool true),
  .is (.bool true),
  .is (.bool true),
  .is (.agg #[.int .u64 0, .int .u64 0, .int .u64 0, .int .u64 0]),
  .is (.int .i64 0),
  .is (.bool true),
  .is (.bool true),
  .is (.bool true),
  .is (.agg #[.int .u64 0, .int .u64 0, .int .u64 0, .int .u64 0]),
  .ints [],
  .is (.int .i64 0),
  .is (.bool true),
  .is (.bool true),
  .is (.bool true),
  .is (.agg #[.int .u64 0, .int .u64 0, .int .u64 0, .int .u64 0]),
  .is (.int .i64 (-1)),
  .is (.bool true),
  .is (.bool true),
  .is (.bool true),
  .is (.agg #[.int .u64 18446744073709551615, .int .u64 18446744073709551615, .int .u64 18446744073709551615, .int .u64 18446744073709551615]),
  .is (.int .i64 (-1)),
  .is (.bool true),
  .is (.bool true),
  .is (.bool true),
  .is (.agg #[.int .u64 18446744073709551615, .int .u64 18446744073709551615, .int .u64 18446744073709551615, .int .u64 18446744073709551615]),
  .is (.int .i64 (-1)),
  .is (.bool true),
  .is (.bool true),
  .is (.bool true),
  .is (.agg #[.int .u64 18446744073709551615, .int .u64 18446744073709551615, .int .u64 18446744073709551615, .int .u64 18446744073709551615]),
  .is (.int .i64 0),
  .is (.bool true),
  .is (.bool true),
  .is (.bool true),
  .is (.agg #[.int .u64 18446744073709551615, .int .u64 18446744073709551615, .int .u64 18446744073709551615, .int .u64 18446744073709551615]),
  .is (.agg #[.int .u64 18446744073709551615, .int .u64 18446744073709551615, .int .u64 18446744073709551615, .int .u64 18446744073709551615]),
  .is (.agg #[.int .u64 18446744073709551615, .int .u64 18446744073709551615, .int .u64 18446744073709551615, .int .u64 18446744073709551615]),
  .is (.bool true),
  .is (.bool true),
  .is (.bool true),
  .is (.agg #[.int .u64 18446744073709551615, .int .u64 18446744073709551615, .int .u64 18446744073709551615, .int .u64 18446744073709551615]),
  .is (.agg #[.int .u64 18446744073709551615, .int .u64 18446744073709551615, .int .u64 18446744073709551615, .int .u64 18446744073709551615]),
  .is (.agg #[.int .u64 18446744073709551615, .int .u64 18446744073709551615, .int .u64 18446744073709551615, .int .u64 18446744073709551615]),
  .is (.bool true),
  .is (.bool true),
  .is (.bool true),
  .is (.agg #[.int .u64 18446744073709551615, .int .u64 18446744073709551615, .int .u64 18446744073709551615, .int .u64 18446744073709551615]),
  .is (.bool false),
  .is (.bool true),
  .is (.bool true),
  .is (.bool true)]

set_option maxRecDepth 100000 in
set_option maxHeartbeats 8000000 in
theorem known_walk (w : World) (hT : TabAt w) (h0 : 0 < w.heap.size) : Calls Tryd.prog 7 #[] w fun e w' => e = .returned (.bool true) ∧ Below w.heap.size w w' := by
  have HTT := Lib.hid (And.intro hT h0)
  clear hT h0
  have HR := Lib.hid (arr2a w 24 [.int .u64 0, .int .u64 0, .int .u64 0, .int .u64 0] (.cells #[.int .u64 0, .int .u64 0, .int .u64 0, .int .u64 0] 24))
  have HS := Lib.hid (arr2b w 24 [.int .u64 0, .int .u64 0, .int .u64 0, .int .u64 0] (.cells #[.int .u64 0, .int .u64 0, .int .u64 0, .int .u64 0] 24))
  go_enter Tryd.func7, Tryd.ntmps7
  go_wp2
  go_loopw [3] (fun x wr => ∃ i : Int, -3 ≤ i ∧ i ≤ 300 ∧ x = .int .i64 i ∧ Below w.heap.size w wr ∧ Arr wr w.heap.size 24 [.int .u64 0, .int .u64 0, .int .u64 0, .int .u64 0] ∧ ∃ a b c d : Nat, wfB [a, b, c, d] ∧ (∀ j : Nat, j < 256 → hasB [a, b, c, d] j = decide ((j : Int) < i)) ∧ Arr wr (w.heap.size + 1) 24 [.int .u64 a, .int .u64 b, .int .u64 c, .int .u64 d]) (fun x _ => (300 - intOf x).toNat)
  case atStart =>
    exact ⟨-3, by omega, by omega, rfl, fb_alloc (fb_alloc (Below.refl _ _) _) _, HR.out, 0, 0, 0, 0, wf_zero, fun j hj => by rw [has_zero, decide_eq_false (by omega)], HS.out⟩
  case round =>
    obtain ⟨i, hi0, hi1, rfl, hbel, hR, a, b, c, d, hwf, hh, hA⟩ := hrel
    have d0 : wr.cell? ⟨w.heap.size + 1, 0, none⟩ = some (.int .u64 a) := hA.cell 0
    have d1 : wr.cell? ⟨w.heap.size + 1, 1, none⟩ = some (.int .u64 b) := hA.cell 1
    have d2 : wr.cell? ⟨w.heap.size + 1, 2, none⟩ = some (.int .u64 c) := hA.cell 2
    have d3 : wr.cell? ⟨w.heap.size + 1, 3, none⟩ = some (.int .u64 d) := hA.cell 3
    by_cases hlt : i < 300
    · obtain ⟨a', b', c', d', hS', _⟩ := wf_form (wf_addI hwf i)
      have hadd := Lib.hid (show ∀ W : World, Calls Tryd.prog 11 #[.agg #[.int .u64 a, .int .u64 b, .int .u64 c, .int .u64 d], .int .i64 i] W fun e w' => e = .returned (.agg #[.int .u64 a', .int .u64 b', .int .u64 c', .int .u64 d']) ∧ Below W.heap.size W w' from fun W => by
        have := badd_any hwf i W
        rw [hS'] at this
        exact this)
      have hnew : wfB [a', b', c', d'] ∧ ∀ j : Nat, j < 256 → hasB [a', b', c', d'] j = decide ((j : Int) < i + 1) := by
        rw [← hS']
        refine ⟨wf_addI hwf i, fun j hj => ?_⟩
        rw [has_addI' hwf i j hj, hh j hj, Bool.eq_iff_iff]
        simp only [Bool.or_eq_true, decide_eq_true_eq]
        omega
      have HX := Lib.hid (And.intro hbel (And.intro hR (And.intro hA hnew)))
      clear hnew hwf hh hS' hbel hR hA
      go_wp2_with (go_at_call 11; refine (calls_lat (hadd.out wr)).mono ?_; rintro e w' ⟨rfl, nu, rfl⟩; have hA2 := HX.out.2.2.1.below (bel_lat0 wr nu) HX.out.2.2.1.lt; have f0 : (lat wr nu).frozen? ⟨w.heap.size + 1, 0, none⟩ = false := hA2.frozen 0; have f1 : (lat wr nu).frozen? ⟨w.heap.size + 1, 1, none⟩ = false := hA2.frozen 1; have f2 : (lat wr nu).frozen? ⟨w.heap.size + 1, 2, none⟩ = false := hA2.frozen 2; have f3 : (lat wr nu).frozen? ⟨w.heap.size + 1, 3, none⟩ = false := hA2.frozen 3; have c0 : (lat wr nu).cell? ⟨w.heap.size + 1, 0, none⟩ = some (.int .u64 a) := hA2.cell 0; have c1 : (lat wr nu).cell? ⟨w.heap.size + 1, 1, none⟩ = some (.int .u64 b) := hA2.cell 1; have c2 : (lat wr nu).cell? ⟨w.heap.size + 1, 2, none⟩ = some (.int .u64 c) := hA2.cell 2; have c3 : (lat wr nu).cell? ⟨w.heap.size + 1, 3, none⟩ = some (.int .u64 d) := hA2.cell 3; clear hA2)
      go_roundw
      case rel =>
        have hA2 := HX.out.2.2.1.below (bel_lat0 wr nu) HX.out.2.2.1.lt
        have hbl := HX.out.1.trans ((bel_lat0 wr nu).mono HX.out.1.size)
        have hR2 := HX.out.2.1.below (bel_lat0 wr nu) HX.out.2.1.lt
        refine ⟨i + 1, by omega, by omega, by go_num, ?_, ?_, a', b', c', d', HX.out.2.2.2.1, HX.out.2.2.2.2, ?_⟩
        · exact (((hbl.setCell (p := ⟨w.heap.size + 1, 0, none⟩) (Nat.le_succ _) _).setCell (p := ⟨w.heap.size + 1, 1, none⟩) (Nat.le_succ _) _).setCell (p := ⟨w.heap.size + 1, 2, none⟩) (Nat.le_succ _) _).setCell (p := ⟨w.heap.size + 1, 3, none⟩) (Nat.le_succ _) _
        · exact (((hR2.set_other _ _ (Nat.ne_of_lt (Nat.lt_succ_self _))).set_other _ _ (Nat.ne_of_lt (Nat.lt_succ_self _))).set_other _ _ (Nat.ne_of_lt (Nat.lt_succ_self _))).set_other _ _ (Nat.ne_of_lt (Nat.lt_succ_self _))
        · exact (((hA2.set 0 _).set 1 _).set 2 _).set 3 _
      case measure => simp [intOf]; omega
    · have hge : (300 : Int) ≤ i := by omega
      have hfull : [a, b, c, d] = FULL := full_of hwf fun j hj => by rw [hh j hj, decide_eq_true (by omega)]
      have hAF : Arr wr (w.heap.size + 1) 24 [.int .u64 18446744073709551615, .int .u64 18446744073709551615, .int .u64 18446744073709551615, .int .u64 18446744073709551615] := by
        injection hfull with e0 e'; injection e' with e1 e'; injection e' with e2 e'; injection e' with e3 e'
        subst e0 e1 e2 e3
        exact hA
      have HX := Lib.hid (And.intro hbel (And.intro hR hAF))
      clear hfull hwf hh hbel hR hA d0 d1 d2 d3 HR HS hi0 hi1 hge hAF
      go_wp2
      obtain ⟨wo, rfl⟩ : ∃ wo : World, wo = wr := ⟨_, rfl⟩
      go_loopw [4] (fun x wr => ∃ k : Nat, k ≤ 256 ∧ x = .int .i64 k ∧ Below wo.heap.size wo wr) (fun x _ => 256 - (intOf x).toNat)
      case atStart => exact ⟨0, by omega, rfl, Below.refl _ _⟩
      case round =>
        obtain ⟨k, hk, rfl, hbel⟩ := hrel
        have hR2 := HX.out.2.1.below hbel HX.out.2.1.lt
        have hA2 := HX.out.2.2.below hbel HX.out.2.2.lt
        have hbw := fb_call HX.out.1 hbel
        have hT2 := HTT.out.1.below HTT.out.2 hbw
        have hz2 := Nat.lt_of_lt_of_le HTT.out.2 hbw.size
        by_cases hkl : k < 256
        · obtain ⟨a1, b1, c1, d1, hS1, _⟩ := wf_form (wf_addI wf_zero (k : Int))
          obtain ⟨a2, b2, c2, d2, hS2, _⟩ := wf_form (wf_delI wf_full (k : Int))
          have hwf1 : wfB [a1, b1, c1, d1] := hS1 ▸ wf_addI wf_zero (k : Int)
          have hwf2 : wfB [a2, b2, c2, d2] := hS2 ▸ wf_delI wf_full (k : Int)
          have q1 := Lib.hid (show ∀ W : World, Calls Tryd.prog 9 #[.agg #[.int .u64 18446744073709551615, .int .u64 18446744073709551615, .int .u64 18446744073709551615, .int .u64 18446744073709551615], .int .i64 (k : Int)] W fun e w' => e = .returned (.bool true) ∧ Below W.heap.size W w' from fun W => by
            have := bhas_any wf_full (k : Int) W
            rw [show hasI FULL (k : Int) = true by unfold hasI; rw [decide_eq_true (by omega), Bool.true_and]; exact has_full' (by omega)] at this; exact this)
          have q2 := Lib.hid (show ∀ u : World, Calls Tryd.prog 17 #[.agg #[.int .u64 18446744073709551615, .int .u64 18446744073709551615, .int .u64 18446744073709551615, .int .u64 18446744073709551615], .int .i64 (k : Int)] (lat wr u) fun e w' => e = .returned (.int .i64 (k : Int)) ∧ Below (lat wr u).heap.size (lat wr u) w' from fun u =>
            (bnext_any wf_full (k : Int) (by omega) _ (hT2.below hz2 (bel_lat0 wr u)) (Nat.lt_of_lt_of_le hz2 (size_lat wr u))).mono fun e w' ⟨v, he, hv, hb⟩ => ⟨by rw [he, next_unique hv (show NextR FULL ((k : Int)).toNat (k : Int) by rw [show ((k : Int)).toNat = k by omega]; exact next_full hkl)], hb⟩)
          have q3 := Lib.hid (show ∀ W : World, Calls Tryd.prog 9 #[.agg #[.int .u64 0, .int .u64 0, .int .u64 0, .int .u64 0], .int .i64 (k : Int)] W fun e w' => e = .returned (.bool false) ∧ Below W.heap.size W w' from fun W => by
            have := bhas_any wf_zero (k : Int) W
            rw [show hasI [0, 0, 0, 0] (k : Int) = false by unfold hasI; rw [has_zero, Bool.and_false]] at this; exact this)
          have q4 := Lib.hid (show ∀ W : World, Calls Tryd.prog 11 #[.agg #[.int .u64 0, .int .u64 0, .int .u64 0, .int .u64 0], .int .i64 (k : Int)] W fun e w' => e = .returned (.agg #[.int .u64 a1, .int .u64 b1, .int .u64 c1, .int .u64 d1]) ∧ Below W.heap.size W w' from fun W => by
            have := badd_any wf_zero (k : Int) W; rw [hS1] at this; exact this)
          have q5 := Lib.hid (show ∀ W : World, Calls Tryd.prog 16 #[.agg #[.int .u64 a1, .int .u64 b1, .int .u64 c1, .int .u64 d1]] W fun e w' => e = .returned (.int .i64 1) ∧ Below W.heap.size W w' from fun W => by
            have := blen_any hwf1 W
            rw [← hS1, add_zero_len hkl, hS1] at this; exact this)
          have q6 := Lib.hid (show ∀ W : World, Calls Tryd.prog 14 #[.agg #[.int .u64 a1, .int .u64 b1, .int .u64 c1, .int .u64 d1], .int .i64 (k : Int)] W fun e w' => e = .returned (.agg #[.int .u64 0, .int .u64 0, .int .u64 0, .int .u64 0]) ∧ Below W.heap.size W w' from fun W => by
            have := bdel_any hwf1 (k : Int) W
            rw [← hS1, del_add_zero k, hS1] at this; exact this)
          have q7 := Lib.hid (show ∀ W : World, Calls Tryd.prog 14 #[.agg #[.int .u64 18446744073709551615, .int .u64 18446744073709551615, .int .u64 18446744073709551615, .int .u64 18446744073709551615], .int .i64 (k : Int)] W fun e w' => e = .returned (.agg #[.int .u64 a2, .int .u64 b2, .int .u64 c2, .int .u64 d2]) ∧ Below W.heap.size W w' from fun W => by
            have := bdel_any wf_full (k : Int) W; rw [hS2] at this; exact this)
          have q8 := Lib.hid (show ∀ W : World, Calls Tryd.prog 16 #[.agg #[.int .u64 a2, .int .u64 b2, .int .u64 c2, .int .u64 d2]] W fun e w' => e = .returned (.int .i64 255) ∧ Below W.heap.size W w' from fun W => by
            have := blen_any hwf2 W
            rw [← hS2, del_full_len hkl, hS2] at this; exact this)
          have g0 : ∀ u, (lat wr u).cell? ⟨w.heap.size, 0, none⟩ = some (.int .u64 0) := fun u => (hR2.below (bel_lat0 wr u) hR2.lt).cell 0
          have g1 : ∀ u, (lat wr u).cell? ⟨w.heap.size, 1, none⟩ = some (.int .u64 0) := fun u => (hR2.below (bel_lat0 wr u) hR2.lt).cell 1
          have g2 : ∀ u, (lat wr u).cell? ⟨w.heap.size, 2, none⟩ = some (.int .u64 0) := fun u => (hR2.below (bel_lat0 wr u) hR2.lt).cell 2
          have g3 : ∀ u, (lat wr u).cell? ⟨w.heap.size, 3, none⟩ = some (.int .u64 0) := fun u => (hR2.below (bel_lat0 wr u) hR2.lt).cell 3
          have j0 : ∀ u, (lat wr u).cell? ⟨w.heap.size + 1, 0, none⟩ = some (.int .u64 18446744073709551615) := fun u => (hA2.below (bel_lat0 wr u) hA2.lt).cell 0
          have j1 : ∀ u, (lat wr u).cell? ⟨w.heap.size + 1, 1, none⟩ = some (.int .u64 18446744073709551615) := fun u => (hA2.below (bel_lat0 wr u) hA2.lt).cell 1
          have j2 : ∀ u, (lat wr u).cell? ⟨w.heap.size + 1, 2, none⟩ = some (.int .u64 18446744073709551615) := fun u => (hA2.below (bel_lat0 wr u) hA2.lt).cell 2
          have j3 : ∀ u, (lat wr u).cell? ⟨w.heap.size + 1, 3, none⟩ = some (.int .u64 18446744073709551615) := fun u => (hA2.below (bel_lat0 wr u) hA2.lt).cell 3
          have HB := Lib.hid hbel
          clear hS1 hS2 hwf1 hwf2 hR2 hA2 hbw hT2 hz2 hbel
          go_wp2
          refine wp_region_lat (by kernel_rfl) (by kernel_rfl) ?_
          repeat (go_big_quiet_step (first | (go_at_call 9; first | exact quiet_lat (q1.out _) | exact quiet_lat (q3.out _)) | (go_at_call 17; exact quiet_lat (q2.out _)) | (go_at_call 11; exact quiet_lat (q4.out _)) | (go_at_call 16; first | exact quiet_lat (q5.out _) | exact quiet_lat (q8.out _)) | (go_at_call 14; first | exact quiet_lat (q6.out _) | exact quiet_lat (q7.out _))))
          refine wpQuiet_nil ?_
          intro _ hw'
          obtain ⟨nu, hw''⟩ := hw'
          subst hw''
          go_wp2
          go_roundw
          case rel => exact ⟨k + 1, by omega, by go_num, fb_call HB.out (bel_lat0 wr nu)⟩
          case measure => simp [intOf]; omega
        · obtain rfl : k = 256 := by omega
          have HX2 := Lib.hid (And.intro hR2 (And.intro hA2 (And.intro hbw (And.intro hT2 hz2))))
          clear hR2 hA2 hbw hT2 hz2 hbel HX HTT
          go_upto_region 11 with fail
          refine wp_gen fun a0 w0 ha0 hw0 => ?_
          subst hw0
          obtain ⟨B1, hB1⟩ : ∃ B1, w.heap.size = B1 := ⟨_, rfl⟩
          obtain ⟨B2, hB2⟩ : ∃ B2, w.heap.size + 1 = B2 := ⟨_, rfl⟩
          have hZ := HX2.out.1
          have hFU := HX2.out.2.1
          rw [hB1] at hZ
          rw [hB2] at hFU
          have hS0 : StB w0 w0 := ⟨Below.refl _ _, HX2.out.2.2.2.1, HX2.out.2.2.2.2⟩
          have HBL := Lib.hid HX2.out.2.2.1
          have z : a0.tmps.size = 114 := by rw [ha0]; rfl
          have d0 : a0.defers = [] := by rw [ha0]
          have e1 : a0.tmps[1]? = some (.pointer (some ⟨B1, 0, none⟩)) := by rw [ha0, ← hB1]; rfl
          have e2 : a0.tmps[2]? = some (.pointer (some ⟨B2, 0, none⟩)) := by rw [ha0, ← hB2]; rfl
          clear ha0 HX2 hk hkl hB1 hB2
          refine wp_region_typed 60 DKnown [] [] (fun k_ v_ w_ => ((TLKnown ).getD k_ .any).ok v_ w_) (fun w w' => Below w.heap.size w w') (fun _ w => StB w0 w) (by kernel_rfl) (by kernel_rfl) (by kernel_rfl) (by kernel_rfl) (by rw [z]; kernel_rfl) (by kernel_rfl) (by kernel_rfl) (fun _ _ _ _ h hr => TyB.mono _ _ _ _ h hr) (fun _ h => hS0.first h) (steps_of ?_) ?_
          · clear hS0
            refine steps_cons (not_ch (by kernel_rfl) fun _n act w K hS hd ham hdep hK => ?_) ?_
            · skip
              have HK := Lib.hid (fun v_ w_ (h1_ : _) (h2_ : _) (h3_ : _) => hK v_ w_ h1_ h2_ h3_ (fun h_ => absurd h_ (by decide)))
              have HS := Lib.hid hS
              clear hK ham hdep hS hd
              refine go_plain rfl ?_
              go_simp
              refine (works_any w HS.out.2.1 HS.out.2.2).mono ?_
              rintro e w' ⟨rfl, hb⟩
              exact HK.out _ w' hb (StB.bel HS.out hb) rfl
            refine steps_cons (not_ch (by kernel_rfl) fun _n act w K hS hd ham hdep hK => ?_) ?_
            · skip
              obtain ⟨x55, h55, t55⟩ := hdep ⟨0, .data⟩ (by simp) rfl 55 rfl
              rw [show x55 = .bool true from t55] at h55
              clear t55
              have HK := Lib.hid (fun v_ w_ (h1_ : _) (h2_ : _) (h3_ : _) => hK v_ w_ h1_ h2_ h3_ (fun h_ => absurd h_ (by decide)))
              have HS := Lib.hid hS
              clear hK ham hdep hS hd
              refine go_plain rfl ?_
              go_simp
              exact HK.out _ w (Below.refl _ _) HS.out rfl
            refine steps_cons (not_ch (by kernel_rfl) fun _n act w K hS hd ham hdep hK => ?_) ?_
            · skip
              have h2 := (ham 2 (by kernel_rfl)).trans e2
              obtain ⟨x56, h56, t56⟩ := hdep ⟨1, .guard⟩ (by simp) rfl 56 rfl
              rw [show x56 = .bool true from t56] at h56
              clear t56
              have HK := Lib.hid (fun v_ w_ (h1_ : _) (h2_ : _) (h3_ : _) => hK v_ w_ h1_ h2_ h3_ (fun h_ => absurd h_ (by decide)))
              have HS := Lib.hid hS
              clear hK ham hdep hS hd
              refine go_guard 1 56 true rfl rfl h56 ?_
              obtain ⟨c0, c1, c2, c3⟩ := cellsK hFU HS.out.1
              go_simp
              exact HK.out _ w (Below.refl _ _) HS.out rfl
            refine steps_cons (not_ch (by kernel_rfl) fun _n act w K hS hd ham hdep hK => ?_) ?_
            · skip
              obtain ⟨x56, h56, t56⟩ := hdep ⟨1, .chain⟩ (by simp) rfl 56 rfl
              rw [show x56 = .bool true from t56] at h56
              clear t56
              obtain ⟨x57, h57, t57⟩ := hdep ⟨2, .data⟩ (by simp) rfl 57 rfl
              rw [show x57 = .agg #[.int .u64 18446744073709551615, .int .u64 18446744073709551615, .int .u64 18446744073709551615, .int .u64 18446744073709551615] from t57] at h57
              clear t57
              have HK := Lib.hid (fun v_ w_ (h1_ : _) (h2_ : _) (h3_ : _) => hK v_ w_ h1_ h2_ h3_ (fun h_ => absurd h_ (by decide)))
              have HS := Lib.hid hS
              clear hK ham hdep hS hd
              refine go_guard 1 56 true rfl rfl h56 ?_
              go_simp
              refine (blen_any wf_full w).mono ?_
              rintro e w' ⟨rfl, hb⟩
              exact HK.out _ w' hb (StB.bel HS.out hb) (congrArg (Value.int .i64) len_full)
            refine steps_cons (not_ch (by kernel_rfl) fun _n act w K hS hd ham hdep hK => ?_) ?_
            · skip
              obtain ⟨x56, h56, t56⟩ := hdep ⟨1, .guard⟩ (by simp) rfl 56 rfl
              rw [show x56 = .bool true from t56] at h56
              clear t56
              obtain ⟨x58, h58, t58⟩ := hdep ⟨3, .data⟩ (by simp) rfl 58 rfl
              rw [show x58 = .int .i64 256 from t58] at h58
              clear t58
              have HK := Lib.hid (fun v_ w_ (h1_ : _) (h2_ : _) (h3_ : _) => hK v_ w_ h1_ h2_ h3_ (fun h_ => absurd h_ (by decide)))
              have HS := Lib.hid hS
              clear hK ham hdep hS hd
              refine go_guard 1 56 true rfl rfl h56 ?_
              go_simp
              exact HK.out _ w (Below.refl _ _) HS.out rfl
            refine steps_cons (not_ch (by kernel_rfl) fun _n act w K hS hd ham hdep hK => ?_) ?_
            · skip
              obtain ⟨x56, h56, t56⟩ := hdep ⟨1, .data⟩ (by simp) rfl 56 rfl
              rw [show x56 = .bool true from t56] at h56
              clear t56
              obtain ⟨x59, h59, t59⟩ := hdep ⟨4, .data⟩ (by simp) rfl 59 rfl
              rw [show x59 = .bool true from t59] at h59
              clear t59
              have HK := Lib.hid (fun v_ w_ (h1_ : _) (h2_ : _) (h3_ : _) => hK v_ w_ h1_ h2_ h3_ (fun h_ => absurd h_ (by decide)))
              have HS := Lib.hid hS
              clear hK ham hdep hS hd
              refine go_plain rfl ?_
              go_simp
              exact HK.out _ w (Below.refl _ _) HS.out rfl
            refine steps_cons (not_ch (by kernel_rfl) fun _n act w K hS hd ham hdep hK => ?_) ?_
            · skip
              obtain ⟨x60, h60, t60⟩ := hdep ⟨5, .data⟩ (by simp) rfl 60 rfl
              rw [show x60 = .bool true from t60] at h60
              clear t60
              have HK := Lib.hid (fun v_ w_ (h1_ : _) (h2_ : _) (h3_ : _) => hK v_ w_ h1_ h2_ h3_ (fun h_ => absurd h_ (by decide)))
              have HS := Lib.hid hS
              clear hK ham hdep hS hd
              refine go_plain rfl ?_
              go_simp
              exact HK.out _ w (Below.refl _ _) HS.out rfl
            refine steps_cons (not_ch (by kernel_rfl) fun _n act w K hS hd ham hdep hK => ?_) ?_
            · skip
              have h2 := (ham 2 (by kernel_rfl)).trans e2
              obtain ⟨x61, h61, t61⟩ := hdep ⟨6, .guard⟩ (by simp) rfl 61 rfl
              rw [show x61 = .bool true from t61] at h61
              clear t61
              have HK := Lib.hid (fun v_ w_ (h1_ : _) (h2_ : _) (h3_ : _) => hK v_ w_ h1_ h2_ h3_ (fun h_ => absurd h_ (by decide)))
              have HS := Lib.hid hS
              clear hK ham hdep hS hd
              refine go_guard 6 61 true rfl rfl h61 ?_
              obtain ⟨c0, c1, c2, c3⟩ := cellsK hFU HS.out.1
              go_simp
              exact HK.out _ w (Below.refl _ _) HS.out rfl
            refine steps_cons (not_ch (by kernel_rfl) fun _n act w K hS hd ham hdep hK => ?_) ?_
            · skip
              obtain ⟨x61, h61, t61⟩ := hdep ⟨6, .guard⟩ (by simp) rfl 61 rfl
              rw [show x61 = .bool true from t61] at h61
              clear t61
              have HK := Lib.hid (fun v_ w_ (h1_ : _) (h2_ : _) (h3_ : _) => hK v_ w_ h1_ h2_ h3_ (fun h_ => absurd h_ (by decide)))
              have HS := Lib.hid hS
              clear hK ham hdep hS hd
              refine go_guard 6 61 true rfl rfl h61 ?_
              go_simp
              exact HK.out _ w (Below.refl _ _) HS.out rfl
            refine steps_cons (not_ch (by kernel_rfl) fun _n act w K hS hd ham hdep hK => ?_) ?_
            · skip
              obtain ⟨x61, h61, t61⟩ := hdep ⟨6, .guard⟩ (by simp) rfl 61 rfl
              rw [show x61 = .bool true from t61] at h61
              clear t61
              obtain ⟨x62, h62, t62⟩ := hdep ⟨7, .data⟩ (by simp) rfl 62 rfl
              rw [show x62 = .agg #[.int .u64 18446744073709551615, .int .u64 18446744073709551615, .int .u64 18446744073709551615, .int .u64 18446744073709551615] from t62] at h62
              clear t62
              obtain ⟨x63, h63, t63⟩ := hdep ⟨8, .data⟩ (by simp) rfl 63 rfl
              rw [show x63 = .agg #[.int .u64 18446744073709551615, .int .u64 18446744073709551615, .int .u64 18446744073709551615, .int .u64 18446744073709551615] from t63] at h63
              clear t63
              have HK := Lib.hid (fun v_ w_ (h1_ : _) (h2_ : _) (h3_ : _) => hK v_ w_ h1_ h2_ h3_ (fun h_ => absurd h_ (by decide)))
              have HS := Lib.hid hS
              clear hK ham hdep hS hd
              refine go_guard 6 61 true rfl rfl h61 ?_
              go_simp
              exact HK.out _ w (Below.refl _ _) HS.out rfl
            refine steps_cons (not_ch (by kernel_rfl) fun _n act w K hS hd ham hdep hK => ?_) ?_
            · skip
              obtain ⟨x61, h61, t61⟩ := hdep ⟨6, .data⟩ (by simp) rfl 61 rfl
              rw [show x61 = .bool true from t61] at h61
              clear t61
              obtain ⟨x64, h64, t64⟩ := hdep ⟨9, .data⟩ (by simp) rfl 64 rfl
              rw [show x64 = .bool true from t64] at h64
              clear t64
              have HK := Lib.hid (fun v_ w_ (h1_ : _) (h2_ : _) (h3_ : _) => hK v_ w_ h1_ h2_ h3_ (fun h_ => absurd h_ (by decide)))
              have HS := Lib.hid hS
              clear hK ham hdep hS hd
              refine go_plain rfl ?_
              go_simp
              exact HK.out _ w (Below.refl _ _) HS.out rfl
            refine steps_cons (not_ch (by kernel_rfl) fun _n act w K hS hd ham hdep hK => ?_) ?_
            · skip
              obtain ⟨x65, h65, t65⟩ := hdep ⟨10, .data⟩ (by simp) rfl 65 rfl
              rw [show x65 = .bool true from t65] at h65
              clear t65
              have HK := Lib.hid (fun v_ w_ (h1_ : _) (h2_ : _) (h3_ : _) => hK v_ w_ h1_ h2_ h3_ (fun h_ => absurd h_ (by decide)))
              have HS := Lib.hid hS
              clear hK ham hdep hS hd
              refine go_plain rfl ?_
              go_simp
              exact HK.out _ w (Below.refl _ _) HS.out rfl
            refine steps_cons (not_ch (by kernel_rfl) fun _n act w K hS hd ham hdep hK => ?_) ?_
            · skip
              have h1 := (ham 1 (by kernel_rfl)).trans e1
              obtain ⟨x66, h66, t66⟩ := hdep ⟨11, .guard⟩ (by simp) rfl 66 rfl
              rw [show x66 = .bool true from t66] at h66
              clear t66
              have HK := Lib.hid (fun v_ w_ (h1_ : _) (h2_ : _) (h3_ : _) => hK v_ w_ h1_ h2_ h3_ (fun h_ => absurd h_ (by decide)))
              have HS := Lib.hid hS
              clear hK ham hdep hS hd
              refine go_guard 11 66 true rfl rfl h66 ?_
              obtain ⟨c0, c1, c2, c3⟩ := cellsK hZ HS.out.1
              go_simp
              exact HK.out _ w (Below.refl _ _) HS.out rfl
            refine steps_cons (not_ch (by kernel_rfl) fun _n act w K hS hd ham hdep hK => ?_) ?_
            · skip
              obtain ⟨x66, h66, t66⟩ := hdep ⟨11, .chain⟩ (by simp) rfl 66 rfl
              rw [show x66 = .bool true from t66] at h66
              clear t66
              obtain ⟨x67, h67, t67⟩ := hdep ⟨12, .data⟩ (by simp) rfl 67 rfl
              rw [show x67 = .agg #[.int .u64 0, .int .u64 0, .int .u64 0, .int .u64 0] from t67] at h67
              clear t67
              have HK := Lib.hid (fun v_ w_ (h1_ : _) (h2_ : _) (h3_ : _) => hK v_ w_ h1_ h2_ h3_ (fun h_ => absurd h_ (by decide)))
              have HS := Lib.hid hS
              clear hK ham hdep hS hd
              refine go_guard 11 66 true rfl rfl h66 ?_
              go_simp
              refine (blen_any wf_zero w).mono ?_
              rintro e w' ⟨rfl, hb⟩
              exact HK.out _ w' hb (StB.bel HS.out hb) (congrArg (Value.int .i64) len_zero)
            refine steps_cons (not_ch (by kernel_rfl) fun _n act w K hS hd ham hdep hK => ?_) ?_
            · skip
              obtain ⟨x66, h66, t66⟩ := hdep ⟨11, .guard⟩ (by simp) rfl 66 rfl
              rw [show x66 = .bool true from t66] at h66
              clear t66
              obtain ⟨x68, h68, t68⟩ := hdep ⟨13, .data⟩ (by simp) rfl 68 rfl
              rw [show x68 = .int .i64 0 from t68] at h68
              clear t68
              have HK := Lib.hid (fun v_ w_ (h1_ : _) (h2_ : _) (h3_ : _) => hK v_ w_ h1_ h2_ h3_ (fun h_ => absurd h_ (by decide)))
              have HS := Lib.hid hS
              clear hK ham hdep hS hd
              refine go_guard 11 66 true rfl rfl h66 ?_
              go_simp
              exact HK.out _ w (Below.refl _ _) HS.out rfl
            refine steps_cons (not_ch (by kernel_rfl) fun _n act w K hS hd ham hdep hK => ?_) ?_
            · skip
              obtain ⟨x66, h66, t66⟩ := hdep ⟨11, .data⟩ (by simp) rfl 66 rfl
              rw [show x66 = .bool true from t66] at h66
              clear t66
              obtain ⟨x69, h69, t69⟩ := hdep ⟨14, .data⟩ (by simp) rfl 69 rfl
              rw [show x69 = .bool true from t69] at h69
              clear t69
              have HK := Lib.hid (fun v_ w_ (h1_ : _) (h2_ : _) (h3_ : _) => hK v_ w_ h1_ h2_ h3_ (fun h_ => absurd h_ (by decide)))
              have HS := Lib.hid hS
              clear hK ham hdep hS hd
              refine go_plain rfl ?_
              go_simp
              exact HK.out _ w (Below.refl _ _) HS.out rfl
            refine steps_cons (not_ch (by kernel_rfl) fun _n act w K hS hd ham hdep hK => ?_) ?_
            · skip
              obtain ⟨x70, h70, t70⟩ := hdep ⟨15, .data⟩ (by simp) rfl 70 rfl
              rw [show x70 = .bool true from t70] at h70
              clear t70
              have HK := Lib.hid (fun v_ w_ (h1_ : _) (h2_ : _) (h3_ : _) => hK v_ w_ h1_ h2_ h3_ (fun h_ => absurd h_ (by decide)))
              have HS := Lib.hid hS
              clear hK ham hdep hS hd
              refine go_plain rfl ?_
              go_simp
              exact HK.out _ w (Below.refl _ _) HS.out rfl
            refine steps_cons (not_ch (by kernel_rfl) fun _n act w K hS hd ham hdep hK => ?_) ?_
            · skip
              have h1 := (ham 1 (by kernel_rfl)).trans e1
              obtain ⟨x71, h71, t71⟩ := hdep ⟨16, .guard⟩ (by simp) rfl 71 rfl
              rw [show x71 = .bool true from t71] at h71
              clear t71
              have HK := Lib.hid (fun v_ w_ (h1_ : _) (h2_ : _) (h3_ : _) => hK v_ w_ h1_ h2_ h3_ (fun h_ => absurd h_ (by decide)))
              have HS := Lib.hid hS
              clear hK ham hdep hS hd
              refine go_guard 16 71 true rfl rfl h71 ?_
              obtain ⟨c0, c1, c2, c3⟩ := cellsK hZ HS.out.1
              go_simp
              exact HK.out _ w (Below.refl _ _) HS.out rfl
            refine steps_cons (not_ch (by kernel_rfl) fun _n act w K hS hd ham hdep hK => ?_) ?_
            · skip
              obtain ⟨x71, h71, t71⟩ := hdep ⟨16, .chain⟩ (by simp) rfl 71 rfl
              rw [show x71 = .bool true from t71] at h71
              clear t71
              obtain ⟨x72, h72, t72⟩ := hdep ⟨17, .data⟩ (by simp) rfl 72 rfl
              rw [show x72 = .agg #[.int .u64 0, .int .u64 0, .int .u64 0, .int .u64 0] from t72] at h72
              clear t72
              have HK := Lib.hid (fun v_ w_ (h1_ : _) (h2_ : _) (h3_ : _) => hK v_ w_ h1_ h2_ h3_ (fun h_ => absurd h_ (by decide)))
              have HS := Lib.hid hS
              clear hK ham hdep hS hd
              refine go_guard 16 71 true rfl rfl h71 ?_
              go_simp
              refine (ball_any wf_zero w HS.out.2.1 HS.out.2.2).mono ?_
              rintro e w' ⟨v, rfl, hI, hb⟩
              exact HK.out _ w' hb (StB.bel HS.out hb) (ints_eq hI lst_zero)
            refine steps_cons (not_ch (by kernel_rfl) fun _n act w K hS hd ham hdep hK => ?_) ?_
            · skip
              obtain ⟨x71, h71, t71⟩ := hdep ⟨16, .guard⟩ (by simp) rfl 71 rfl
              rw [show x71 = .bool true from t71] at h71
              clear t71
              obtain ⟨x73, h73, t73⟩ := hdep ⟨18, .data⟩ (by simp) rfl 73 rfl
              have t73 := Lib.hid t73
              have HK := Lib.hid (fun v_ w_ (h1_ : _) (h2_ : _) (h3_ : _) => hK v_ w_ h1_ h2_ h3_ (fun h_ => absurd h_ (by decide)))
              have HS := Lib.hid hS
              clear hK ham hdep hS hd
              refine go_guard 16 71 true rfl rfl h71 ?_
              obtain ⟨av, cv, hvl⟩ := ints_form t73.out
              rw [hvl] at h73
              clear hvl
              go_simp
              exact HK.out _ w (Below.refl _ _) HS.out rfl
            refine steps_cons (not_ch (by kernel_rfl) fun _n act w K hS hd ham hdep hK => ?_) ?_
            · skip
              obtain ⟨x71, h71, t71⟩ := hdep ⟨16, .guard⟩ (by simp) rfl 71 rfl
              rw [show x71 = .bool true from t71] at h71
              clear t71
              obtain ⟨x74, h74, t74⟩ := hdep ⟨19, .data⟩ (by simp) rfl 74 rfl
              rw [show x74 = .int .i64 0 from t74] at h74
              clear t74
              have HK := Lib.hid (fun v_ w_ (h1_ : _) (h2_ : _) (h3_ : _) => hK v_ w_ h1_ h2_ h3_ (fun h_ => absurd h_ (by decide)))
              have HS := Lib.hid hS
              clear hK ham hdep hS hd
              refine go_guard 16 71 true rfl rfl h71 ?_
              go_simp
              exact HK.out _ w (Below.refl _ _) HS.out rfl
            refine steps_cons (not_ch (by kernel_rfl) fun _n act w K hS hd ham hdep hK => ?_) ?_
            · skip
              obtain ⟨x71, h71, t71⟩ := hdep ⟨16, .data⟩ (by simp) rfl 71 rfl
              rw [show x71 = .bool true from t71] at h71
              clear t71
              obtain ⟨x75, h75, t75⟩ := hdep ⟨20, .data⟩ (by simp) rfl 75 rfl
              rw [show x75 = .bool true from t75] at h75
              clear t75
              have HK := Lib.hid (fun v_ w_ (h1_ : _) (h2_ : _) (h3_ : _) => hK v_ w_ h1_ h2_ h3_ (fun h_ => absurd h_ (by decide)))
              have HS := Lib.hid hS
              clear hK ham hdep hS hd
              refine go_plain rfl ?_
              go_simp
              exact HK.out _ w (Below.refl _ _) HS.out rfl
            refine steps_cons (not_ch (by kernel_rfl) fun _n act w K hS hd ham hdep hK => ?_) ?_
            · skip
              obtain ⟨x76, h76, t76⟩ := hdep ⟨21, .data⟩ (by simp) rfl 76 rfl
              rw [show x76 = .bool true from t76] at h76
              clear t76
              have HK := Lib.hid (fun v_ w_ (h1_ : _) (h2_ : _) (h3_ : _) => hK v_ w_ h1_ h2_ h3_ (fun h_ => absurd h_ (by decide)))
              have HS := Lib.hid hS
              clear hK ham hdep hS hd
              refine go_plain rfl ?_
              go_simp
              exact HK.out _ w (Below.refl _ _) HS.out rfl
            refine steps_cons (not_ch (by kernel_rfl) fun _n act w K hS hd ham hdep hK => ?_) ?_
            · skip
              have h1 := (ham 1 (by kernel_rfl)).trans e1
              obtain ⟨x77, h77, t77⟩ := hdep ⟨22, .guard⟩ (by simp) rfl 77 rfl
              rw [show x77 = .bool true from t77] at h77
              clear t77
              have HK := Lib.hid (fun v_ w_ (h1_ : _) (h2_ : _) (h3_ : _) => hK v_ w_ h1_ h2_ h3_ (fun h_ => absurd h_ (by decide)))
              have HS := Lib.hid hS
              clear hK ham hdep hS hd
              refine go_guard 22 77 true rfl rfl h77 ?_
              obtain ⟨c0, c1, c2, c3⟩ := cellsK hZ HS.out.1
              go_simp
              exact HK.out _ w (Below.refl _ _) HS.out rfl
            refine steps_cons (not_ch (by kernel_rfl) fun _n act w K hS hd ham hdep hK => ?_) ?_
            · skip
              obtain ⟨x77, h77, t77⟩ := hdep ⟨22, .chain⟩ (by simp) rfl 77 rfl
              rw [show x77 = .bool true from t77] at h77
              clear t77
              obtain ⟨x78, h78, t78⟩ := hdep ⟨23, .data⟩ (by simp) rfl 78 rfl
              rw [show x78 = .agg #[.int .u64 0, .int .u64 0, .int .u64 0, .int .u64 0] from t78] at h78
              clear t78
              have HK := Lib.hid (fun v_ w_ (h1_ : _) (h2_ : _) (h3_ : _) => hK v_ w_ h1_ h2_ h3_ (fun h_ => absurd h_ (by decide)))
              have HS := Lib.hid hS
              clear hK ham hdep hS hd
              refine go_guard 22 77 true rfl rfl h77 ?_
              go_simp
              refine (bnext_any wf_zero (0) (by omega) w HS.out.2.1 HS.out.2.2).mono ?_
              rintro e w' ⟨v, rfl, hv, hb⟩
              rw [next_unique hv next_zero]
              exact HK.out _ w' hb (StB.bel HS.out hb) rfl
            refine steps_cons (not_ch (by kernel_rfl) fun _n act w K hS hd ham hdep hK => ?_) ?_
            · skip
              obtain ⟨x77, h77, t77⟩ := hdep ⟨22, .guard⟩ (by simp) rfl 77 rfl
              rw [show x77 = .bool true from t77] at h77
              clear t77
              obtain ⟨x79, h79, t79⟩ := hdep ⟨24, .data⟩ (by simp) rfl 79 rfl
              rw [show x79 = .int .i64 (-1) from t79] at h79
              clear t79
              have HK := Lib.hid (fun v_ w_ (h1_ : _) (h2_ : _) (h3_ : _) => hK v_ w_ h1_ h2_ h3_ (fun h_ => absurd h_ (by decide)))
              have HS := Lib.hid hS
              clear hK ham hdep hS hd
              refine go_guard 22 77 true rfl rfl h77 ?_
              go_simp
              exact HK.out _ w (Below.refl _ _) HS.out rfl
            refine steps_cons (not_ch (by kernel_rfl) fun _n act w K hS hd ham hdep hK => ?_) ?_
            · skip
              obtain ⟨x77, h77, t77⟩ := hdep ⟨22, .data⟩ (by simp) rfl 77 rfl
              rw [show x77 = .bool true from t77] at h77
              clear t77
              obtain ⟨x80, h80, t80⟩ := hdep ⟨25, .data⟩ (by simp) rfl 80 rfl
              rw [show x80 = .bool true from t80] at h80
              clear t80
              have HK := Lib.hid (fun v_ w_ (h1_ : _) (h2_ : _) (h3_ : _) => hK v_ w_ h1_ h2_ h3_ (fun h_ => absurd h_ (by decide)))
              have HS := Lib.hid hS
              clear hK ham hdep hS hd
              refine go_plain rfl ?_
              go_simp
              exact HK.out _ w (Below.refl _ _) HS.out rfl
            refine steps_cons (not_ch (by kernel_rfl) fun _n act w K hS hd ham hdep hK => ?_) ?_
            · skip
              obtain ⟨x81, h81, t81⟩ := hdep ⟨26, .data⟩ (by simp) rfl 81 rfl
              rw [show x81 = .bool true from t81] at h81
              clear t81
              have HK := Lib.hid (fun v_ w_ (h1_ : _) (h2_ : _) (h3_ : _) => hK v_ w_ h1_ h2_ h3_ (fun h_ => absurd h_ (by decide)))
              have HS := Lib.hid hS
              clear hK ham hdep hS hd
              refine go_plain rfl ?_
              go_simp
              exact HK.out _ w (Below.refl _ _) HS.out rfl
            refine steps_cons (not_ch (by kernel_rfl) fun _n act w K hS hd ham hdep hK => ?_) ?_
            · skip
              have h2 := (ham 2 (by kernel_rfl)).trans e2
              obtain ⟨x82, h82, t82⟩ := hdep ⟨27, .guard⟩ (by simp) rfl 82 rfl
              rw [show x82 = .bool true from t82] at h82
              clear t82
              have HK := Lib.hid (fun v_ w_ (h1_ : _) (h2_ : _) (h3_ : _) => hK v_ w_ h1_ h2_ h3_ (fun h_ => absurd h_ (by decide)))
              have HS := Lib.hid hS
              clear hK ham hdep hS hd
              refine go_guard 27 82 true rfl rfl h82 ?_
              obtain ⟨c0, c1, c2, c3⟩ := cellsK hFU HS.out.1
              go_simp
              exact HK.out _ w (Below.refl _ _) HS.out rfl
            refine steps_cons (not_ch (by kernel_rfl) fun _n act w K hS hd ham hdep hK => ?_) ?_
            · skip
              obtain ⟨x82, h82, t82⟩ := hdep ⟨27, .chain⟩ (by simp) rfl 82 rfl
              rw [show x82 = .bool true from t82] at h82
              clear t82
              obtain ⟨x83, h83, t83⟩ := hdep ⟨28, .data⟩ (by simp) rfl 83 rfl
              rw [show x83 = .agg #[.int .u64 18446744073709551615, .int .u64 18446744073709551615, .int .u64 18446744073709551615, .int .u64 18446744073709551615] from t83] at h83
              clear t83
              have HK := Lib.hid (fun v_ w_ (h1_ : _) (h2_ : _) (h3_ : _) => hK v_ w_ h1_ h2_ h3_ (fun h_ => absurd h_ (by decide)))
              have HS := Lib.hid hS
              clear hK ham hdep hS hd
              refine go_guard 27 82 true rfl rfl h82 ?_
              go_simp
              refine (bnext_any wf_full (256) (by omega) w HS.out.2.1 HS.out.2.2).mono ?_
              rintro e w' ⟨v, rfl, hv, hb⟩
              rw [next_unique hv (next_high _ _ (by decide))]
              exact HK.out _ w' hb (StB.bel HS.out hb) rfl
            refine steps_cons (not_ch (by kernel_rfl) fun _n act w K hS hd ham hdep hK => ?_) ?_
            · skip
              obtain ⟨x82, h82, t82⟩ := hdep ⟨27, .guard⟩ (by simp) rfl 82 rfl
              rw [show x82 = .bool true from t82] at h82
              clear t82
              obtain ⟨x84, h84, t84⟩ := hdep ⟨29, .data⟩ (by simp) rfl 84 rfl
              rw [show x84 = .int .i64 (-1) from t84] at h84
              clear t84
              have HK := Lib.hid (fun v_ w_ (h1_ : _) (h2_ : _) (h3_ : _) => hK v_ w_ h1_ h2_ h3_ (fun h_ => absurd h_ (by decide)))
              have HS := Lib.hid hS
              clear hK ham hdep hS hd
              refine go_guard 27 82 true rfl rfl h82 ?_
              go_simp
              exact HK.out _ w (Below.refl _ _) HS.out rfl
            refine steps_cons (not_ch (by kernel_rfl) fun _n act w K hS hd ham hdep hK => ?_) ?_
            · skip
              obtain ⟨x82, h82, t82⟩ := hdep ⟨27, .data⟩ (by simp) rfl 82 rfl
              rw [show x82 = .bool true from t82] at h82
              clear t82
              obtain ⟨x85, h85, t85⟩ := hdep ⟨30, .data⟩ (by simp) rfl 85 rfl
              rw [show x85 = .bool true from t85] at h85
              clear t85
              have HK := Lib.hid (fun v_ w_ (h1_ : _) (h2_ : _) (h3_ : _) => hK v_ w_ h1_ h2_ h3_ (fun h_ => absurd h_ (by decide)))
              have HS := Lib.hid hS
              clear hK ham hdep hS hd
              refine go_plain rfl ?_
              go_simp
              exact HK.out _ w (Below.refl _ _) HS.out rfl
            refine steps_cons (not_ch (by kernel_rfl) fun _n act w K hS hd ham hdep hK => ?_) ?_
            · skip
              obtain ⟨x86, h86, t86⟩ := hdep ⟨31, .data⟩ (by simp) rfl 86 rfl
              rw [show x86 = .bool true from t86] at h86
              clear t86
              have HK := Lib.hid (fun v_ w_ (h1_ : _) (h2_ : _) (h3_ : _) => hK v_ w_ h1_ h2_ h3_ (fun h_ => absurd h_ (by decide)))
              have HS := Lib.hid hS
              clear hK ham hdep hS hd
              refine go_plain rfl ?_
              go_simp
              exact HK.out _ w (Below.refl _ _) HS.out rfl
            refine steps_cons (not_ch (by kernel_rfl) fun _n act w K hS hd ham hdep hK => ?_) ?_
            · skip
              have h2 := (ham 2 (by kernel_rfl)).trans e2
              obtain ⟨x87, h87, t87⟩ := hdep ⟨32, .guard⟩ (by simp) rfl 87 rfl
              rw [show x87 = .bool true from t87] at h87
              clear t87
              have HK := Lib.hid (fun v_ w_ (h1_ : _) (h2_ : _) (h3_ : _) => hK v_ w_ h1_ h2_ h3_ (fun h_ => absurd h_ (by decide)))
              have HS := Lib.hid hS
              clear hK ham hdep hS hd
              refine go_guard 32 87 true rfl rfl h87 ?_
              obtain ⟨c0, c1, c2, c3⟩ := cellsK hFU HS.out.1
              go_simp
              exact HK.out _ w (Below.refl _ _) HS.out rfl
            refine steps_cons (not_ch (by kernel_rfl) fun _n act w K hS hd ham hdep hK => ?_) ?_
            · skip
              obtain ⟨x87, h87, t87⟩ := hdep ⟨32, .chain⟩ (by simp) rfl 87 rfl
              rw [show x87 = .bool true from t87] at h87
              clear t87
              obtain ⟨x88, h88, t88⟩ := hdep ⟨33, .data⟩ (by simp) rfl 88 rfl
              rw [show x88 = .agg #[.int .u64 18446744073709551615, .int .u64 18446744073709551615, .int .u64 18446744073709551615, .int .u64 18446744073709551615] from t88] at h88
              clear t88
              have HK := Lib.hid (fun v_ w_ (h1_ : _) (h2_ : _) (h3_ : _) => hK v_ w_ h1_ h2_ h3_ (fun h_ => absurd h_ (by decide)))
              have HS := Lib.hid hS
              clear hK ham hdep hS hd
              refine go_guard 32 87 true rfl rfl h87 ?_
              go_simp
              refine (bnext_any wf_full (4611686018427387904) (by omega) w HS.out.2.1 HS.out.2.2).mono ?_
              rintro e w' ⟨v, rfl, hv, hb⟩
              rw [next_unique hv (next_high _ _ (by decide))]
              exact HK.out _ w' hb (StB.bel HS.out hb) rfl
            refine steps_cons (not_ch (by kernel_rfl) fun _n act w K hS hd ham hdep hK => ?_) ?_
            · skip
              obtain ⟨x87, h87, t87⟩ := hdep ⟨32, .guard⟩ (by simp) rfl 87 rfl
              rw [show x87 = .bool true from t87] at h87
              clear t87
              obtain ⟨x89, h89, t89⟩ := hdep ⟨34, .data⟩ (by simp) rfl 89 rfl
              rw [show x89 = .int .i64 (-1) from t89] at h89
              clear t89
              have HK := Lib.hid (fun v_ w_ (h1_ : _) (h2_ : _) (h3_ : _) => hK v_ w_ h1_ h2_ h3_ (fun h_ => absurd h_ (by decide)))
              have HS := Lib.hid hS
              clear hK ham hdep hS hd
              refine go_guard 32 87 true rfl rfl h87 ?_
              go_simp
              exact HK.out _ w (Below.refl _ _) HS.out rfl
            refine steps_cons (not_ch (by kernel_rfl) fun _n act w K hS hd ham hdep hK => ?_) ?_
            · skip
              obtain ⟨x87, h87, t87⟩ := hdep ⟨32, .data⟩ (by simp) rfl 87 rfl
              rw [show x87 = .bool true from t87] at h87
              clear t87
              obtain ⟨x90, h90, t90⟩ := hdep ⟨35, .data⟩ (by simp) rfl 90 rfl
              rw [show x90 = .bool true from t90] at h90
              clear t90
              have HK := Lib.hid (fun v_ w_ (h1_ : _) (h2_ : _) (h3_ : _) => hK v_ w_ h1_ h2_ h3_ (fun h_ => absurd h_ (by decide)))
              have HS := Lib.hid hS
              clear hK ham hdep hS hd
              refine go_plain rfl ?_
              go_simp
              exact HK.out _ w (Below.refl _ _) HS.out rfl
            refine steps_cons (not_ch (by kernel_rfl) fun _n act w K hS hd ham hdep hK => ?_) ?_
            · skip
              obtain ⟨x91, h91, t91⟩ := hdep ⟨36, .data⟩ (by simp) rfl 91 rfl
              rw [show x91 = .bool true from t91] at h91
              clear t91
              have HK := Lib.hid (fun v_ w_ (h1_ : _) (h2_ : _) (h3_ : _) => hK v_ w_ h1_ h2_ h3_ (fun h_ => absurd h_ (by decide)))
              have HS := Lib.hid hS
              clear hK ham hdep hS hd
              refine go_plain rfl ?_
              go_simp
              exact HK.out _ w (Below.refl _ _) HS.out rfl
            refine steps_cons (not_ch (by kernel_rfl) fun _n act w K hS hd ham hdep hK => ?_) ?_
            · skip
              have h2 := (ham 2 (by kernel_rfl)).trans e2
              obtain ⟨x92, h92, t92⟩ := hdep ⟨37, .guard⟩ (by simp) rfl 92 rfl
              rw [show x92 = .bool true from t92] at h92
              clear t92
              have HK := Lib.hid (fun v_ w_ (h1_ : _) (h2_ : _) (h3_ : _) => hK v_ w_ h1_ h2_ h3_ (fun h_ => absurd h_ (by decide)))
              have HS := Lib.hid hS
              clear hK ham hdep hS hd
              refine go_guard 37 92 true rfl rfl h92 ?_
              obtain ⟨c0, c1, c2, c3⟩ := cellsK hFU HS.out.1
              go_simp
              exact HK.out _ w (Below.refl _ _) HS.out rfl
            refine steps_cons (not_ch (by kernel_rfl) fun _n act w K hS hd ham hdep hK => ?_) ?_
            · skip
              obtain ⟨x92, h92, t92⟩ := hdep ⟨37, .chain⟩ (by simp) rfl 92 rfl
              rw [show x92 = .bool true from t92] at h92
              clear t92
              obtain ⟨x93, h93, t93⟩ := hdep ⟨38, .data⟩ (by simp) rfl 93 rfl
              rw [show x93 = .agg #[.int .u64 18446744073709551615, .int .u64 18446744073709551615, .int .u64 18446744073709551615, .int .u64 18446744073709551615] from t93] at h93
              clear t93
              have HK := Lib.hid (fun v_ w_ (h1_ : _) (h2_ : _) (h3_ : _) => hK v_ w_ h1_ h2_ h3_ (fun h_ => absurd h_ (by decide)))
              have HS := Lib.hid hS
              clear hK ham hdep hS hd
              refine go_guard 37 92 true rfl rfl h92 ?_
              go_simp
              refine (bnext_any wf_full (-4611686018427387904) (by omega) w HS.out.2.1 HS.out.2.2).mono ?_
              rintro e w' ⟨v, rfl, hv, hb⟩
              rw [next_unique hv next_full0]
              exact HK.out _ w' hb (StB.bel HS.out hb) rfl
            refine steps_cons (not_ch (by kernel_rfl) fun _n act w K hS hd ham hdep hK => ?_) ?_
            · skip
              obtain ⟨x92, h92, t92⟩ := hdep ⟨37, .guard⟩ (by simp) rfl 92 rfl
              rw [show x92 = .bool true from t92] at h92
              clear t92
              obtain ⟨x94, h94, t94⟩ := hdep ⟨39, .data⟩ (by simp) rfl 94 rfl
              rw [show x94 = .int .i64 0 from t94] at h94
              clear t94
              have HK := Lib.hid (fun v_ w_ (h1_ : _) (h2_ : _) (h3_ : _) => hK v_ w_ h1_ h2_ h3_ (fun h_ => absurd h_ (by decide)))
              have HS := Lib.hid hS
              clear hK ham hdep hS hd
              refine go_guard 37 92 true rfl rfl h92 ?_
              go_simp
              exact HK.out _ w (Below.refl _ _) HS.out rfl
            refine steps_cons (not_ch (by kernel_rfl) fun _n act w K hS hd ham hdep hK => ?_) ?_
            · skip
              obtain ⟨x92, h92, t92⟩ := hdep ⟨37, .data⟩ (by simp) rfl 92 rfl
              rw [show x92 = .bool true from t92] at h92
              clear t92
              obtain ⟨x95, h95, t95⟩ := hdep ⟨40, .data⟩ (by simp) rfl 95 rfl
              rw [show x95 = .bool true from t95] at h95
              clear t95
              have HK := Lib.hid (fun v_ w_ (h1_ : _) (h2_ : _) (h3_ : _) => hK v_ w_ h1_ h2_ h3_ (fun h_ => absurd h_ (by decide)))
              have HS := Lib.hid hS
              clear hK ham hdep hS hd
              refine go_plain rfl ?_
              go_simp
              exact HK.out _ w (Below.refl _ _) HS.out rfl
            refine steps_cons (not_ch (by kernel_rfl) fun _n act w K hS hd ham hdep hK => ?_) ?_
            · skip
              obtain ⟨x96, h96, t96⟩ := hdep ⟨41, .data⟩ (by simp) rfl 96 rfl
              rw [show x96 = .bool true from t96] at h96
              clear t96
              have HK := Lib.hid (fun v_ w_ (h1_ : _) (h2_ : _) (h3_ : _) => hK v_ w_ h1_ h2_ h3_ (fun h_ => absurd h_ (by decide)))
              have HS := Lib.hid hS
              clear hK ham hdep hS hd
              refine go_plain rfl ?_
              go_simp
              exact HK.out _ w (Below.refl _ _) HS.out rfl
            refine steps_cons (not_ch (by kernel_rfl) fun _n act w K hS hd ham hdep hK => ?_) ?_
            · skip
              have h2 := (ham 2 (by kernel_rfl)).trans e2
              obtain ⟨x97, h97, t97⟩ := hdep ⟨42, .guard⟩ (by simp) rfl 97 rfl
              rw [show x97 = .bool true from t97] at h97
              clear t97
              have HK := Lib.hid (fun v_ w_ (h1_ : _) (h2_ : _) (h3_ : _) => hK v_ w_ h1_ h2_ h3_ (fun h_ => absurd h_ (by decide)))
              have HS := Lib.hid hS
              clear hK ham hdep hS hd
              refine go_guard 42 97 true rfl rfl h97 ?_
              obtain ⟨c0, c1, c2, c3⟩ := cellsK hFU HS.out.1
              go_simp
              exact HK.out _ w (Below.refl _ _) HS.out rfl
            refine steps_cons (not_ch (by kernel_rfl) fun _n act w K hS hd ham hdep hK => ?_) ?_
            · skip
              obtain ⟨x97, h97, t97⟩ := hdep ⟨42, .chain⟩ (by simp) rfl 97 rfl
              rw [show x97 = .bool true from t97] at h97
              clear t97
              obtain ⟨x98, h98, t98⟩ := hdep ⟨43, .data⟩ (by simp) rfl 98 rfl
              rw [show x98 = .agg #[.int .u64 18446744073709551615, .int .u64 18446744073709551615, .int .u64 18446744073709551615, .int .u64 18446744073709551615] from t98] at h98
              clear t98
              have HK := Lib.hid (fun v_ w_ (h1_ : _) (h2_ : _) (h3_ : _) => hK v_ w_ h1_ h2_ h3_ (fun h_ => absurd h_ (by decide)))
              have HS := Lib.hid hS
              clear hK ham hdep hS hd
              refine go_guard 42 97 true rfl rfl h97 ?_
              go_simp
              refine (bdel_any wf_full (-1) w).mono ?_
              rintro e w' ⟨rfl, hb⟩
              exact HK.out _ w' hb (StB.bel HS.out hb) (show svL (delI FULL (-1)) = .agg #[.int .u64 18446744073709551615, .int .u64 18446744073709551615, .int .u64 18446744073709551615, .int .u64 18446744073709551615] from rfl)
            refine steps_cons (not_ch (by kernel_rfl) fun _n act w K hS hd ham hdep hK => ?_) ?_
            · skip
              have h2 := (ham 2 (by kernel_rfl)).trans e2
              obtain ⟨x97, h97, t97⟩ := hdep ⟨42, .guard⟩ (by simp) rfl 97 rfl
              rw [show x97 = .bool true from t97] at h97
              clear t97
              have HK := Lib.hid (fun v_ w_ (h1_ : _) (h2_ : _) (h3_ : _) => hK v_ w_ h1_ h2_ h3_ (fun h_ => absurd h_ (by decide)))
              have HS := Lib.hid hS
              clear hK ham hdep hS hd
              refine go_guard 42 97 true rfl rfl h97 ?_
              obtain ⟨c0, c1, c2, c3⟩ := cellsK hFU HS.out.1
              go_simp
              exact HK.out _ w (Below.refl _ _) HS.out rfl
            refine steps_cons (not_ch (by kernel_rfl) fun _n act w K hS hd ham hdep hK => ?_) ?_
            · skip
              obtain ⟨x97, h97, t97⟩ := hdep ⟨42, .guard⟩ (by simp) rfl 97 rfl
              rw [show x97 = .bool true from t97] at h97
              clear t97
              obtain ⟨x99, h99, t99⟩ := hdep ⟨44, .data⟩ (by simp) rfl 99 rfl
              rw [show x99 = .agg #[.int .u64 18446744073709551615, .int .u64 18446744073709551615, .int .u64 18446744073709551615, .int .u64 18446744073709551615] from t99] at h99
              clear t99
              obtain ⟨x100, h100, t100⟩ := hdep ⟨45, .data⟩ (by simp) rfl 100 rfl
              rw [show x100 = .agg #[.int .u64 18446744073709551615, .int .u64 18446744073709551615, .int .u64 18446744073709551615, .int .u64 18446744073709551615] from t100] at h100
              clear t100
              have HK := Lib.hid (fun v_ w_ (h1_ : _) (h2_ : _) (h3_ : _) => hK v_ w_ h1_ h2_ h3_ (fun h_ => absurd h_ (by decide)))
              have HS := Lib.hid hS
              clear hK ham hdep hS hd
              refine go_guard 42 97 true rfl rfl h97 ?_
              go_simp
              exact HK.out _ w (Below.refl _ _) HS.out rfl
            refine steps_cons (not_ch (by kernel_rfl) fun _n act w K hS hd ham hdep hK => ?_) ?_
            · skip
              obtain ⟨x97, h97, t97⟩ := hdep ⟨42, .data⟩ (by simp) rfl 97 rfl
              rw [show x97 = .bool true from t97] at h97
              clear t97
              obtain ⟨x101, h101, t101⟩ := hdep ⟨46, .data⟩ (by simp) rfl 101 rfl
              rw [show x101 = .bool true from t101] at h101
              clear t101
              have HK := Lib.hid (fun v_ w_ (h1_ : _) (h2_ : _) (h3_ : _) => hK v_ w_ h1_ h2_ h3_ (fun h_ => absurd h_ (by decide)))
              have HS := Lib.hid hS
              clear hK ham hdep hS hd
              refine go_plain rfl ?_
              go_simp
              exact HK.out _ w (Below.refl _ _) HS.out rfl
            refine steps_cons (not_ch (by kernel_rfl) fun _n act w K hS hd ham hdep hK => ?_) ?_
            · skip
              obtain ⟨x102, h102, t102⟩ := hdep ⟨47, .data⟩ (by simp) rfl 102 rfl
              rw [show x102 = .bool true from t102] at h102
              clear t102
              have HK := Lib.hid (fun v_ w_ (h1_ : _) (h2_ : _) (h3_ : _) => hK v_ w_ h1_ h2_ h3_ (fun h_ => absurd h_ (by decide)))
              have HS := Lib.hid hS
              clear hK ham hdep hS hd
              refine go_plain rfl ?_
              go_simp
              exact HK.out _ w (Below.refl _ _) HS.out rfl
            refine steps_cons (not_ch (by kernel_rfl) fun _n act w K hS hd ham hdep hK => ?_) ?_
            · skip
              have h2 := (ham 2 (by kernel_rfl)).trans e2
              obtain ⟨x103, h103, t103⟩ := hdep ⟨48, .guard⟩ (by simp) rfl 103 rfl
              rw [show x103 = .bool true from t103] at h103
              clear t103
              have HK := Lib.hid (fun v_ w_ (h1_ : _) (h2_ : _) (h3_ : _) => hK v_ w_ h1_ h2_ h3_ (fun h_ => absurd h_ (by decide)))
              have HS := Lib.hid hS
              clear hK ham hdep hS hd
              refine go_guard 48 103 true rfl rfl h103 ?_
              obtain ⟨c0, c1, c2, c3⟩ := cellsK hFU HS.out.1
              go_simp
              exact HK.out _ w (Below.refl _ _) HS.out rfl
            refine steps_cons (not_ch (by kernel_rfl) fun _n act w K hS hd ham hdep hK => ?_) ?_
            · skip
              obtain ⟨x103, h103, t103⟩ := hdep ⟨48, .chain⟩ (by simp) rfl 103 rfl
              rw [show x103 = .bool true from t103] at h103
              clear t103
              obtain ⟨x104, h104, t104⟩ := hdep ⟨49, .data⟩ (by simp) rfl 104 rfl
              rw [show x104 = .agg #[.int .u64 18446744073709551615, .int .u64 18446744073709551615, .int .u64 18446744073709551615, .int .u64 18446744073709551615] from t104] at h104
              clear t104
              have HK := Lib.hid (fun v_ w_ (h1_ : _) (h2_ : _) (h3_ : _) => hK v_ w_ h1_ h2_ h3_ (fun h_ => absurd h_ (by decide)))
              have HS := Lib.hid hS
              clear hK ham hdep hS hd
              refine go_guard 48 103 true rfl rfl h103 ?_
              go_simp
              refine (bdel_any wf_full (256) w).mono ?_
              rintro e w' ⟨rfl, hb⟩
              exact HK.out _ w' hb (StB.bel HS.out hb) (show svL (delI FULL (256)) = .agg #[.int .u64 18446744073709551615, .int .u64 18446744073709551615, .int .u64 18446744073709551615, .int .u64 18446744073709551615] from rfl)
            refine steps_cons (not_ch (by kernel_rfl) fun _n act w K hS hd ham hdep hK => ?_) ?_
            · skip
              have h2 := (ham 2 (by kernel_rfl)).trans e2
              obtain ⟨x103, h103, t103⟩ := hdep ⟨48, .guard⟩ (by simp) rfl 103 rfl
              rw [show x103 = .bool true from t103] at h103
              clear t103
              have HK := Lib.hid (fun v_ w_ (h1_ : _) (h2_ : _) (h3_ : _) => hK v_ w_ h1_ h2_ h3_ (fun h_ => absurd h_ (by decide)))
              have HS := Lib.hid hS
              clear hK ham hdep hS hd
              refine go_guard 48 103 true rfl rfl h103 ?_
              obtain ⟨c0, c1, c2, c3⟩ := cellsK hFU HS.out.1
              go_simp
              exact HK.out _ w (Below.refl _ _) HS.out rfl
            refine steps_cons (not_ch (by kernel_rfl) fun _n act w K hS hd ham hdep hK => ?_) ?_
            · skip
              obtain ⟨x103, h103, t103⟩ := hdep ⟨48, .guard⟩ (by simp) rfl 103 rfl
              rw [show x103 = .bool true from t103] at h103
              clear t103
              obtain ⟨x105, h105, t105⟩ := hdep ⟨50, .data⟩ (by simp) rfl 105 rfl
              rw [show x105 = .agg #[.int .u64 18446744073709551615, .int .u64 18446744073709551615, .int .u64 18446744073709551615, .int .u64 18446744073709551615] from t105] at h105
              clear t105
              obtain ⟨x106, h106, t106⟩ := hdep ⟨51, .data⟩ (by simp) rfl 106 rfl
              rw [show x106 = .agg #[.int .u64 18446744073709551615, .int .u64 18446744073709551615, .int .u64 18446744073709551615, .int .u64 18446744073709551615] from t106] at h106
              clear t106
              have HK := Lib.hid (fun v_ w_ (h1_ : _) (h2_ : _) (h3_ : _) => hK v_ w_ h1_ h2_ h3_ (fun h_ => absurd h_ (by decide)))
              have HS := Lib.hid hS
              clear hK ham hdep hS hd
              refine go_guard 48 103 true rfl rfl h103 ?_
              go_simp
              exact HK.out _ w (Below.refl _ _) HS.out rfl
            refine steps_cons (not_ch (by kernel_rfl) fun _n act w K hS hd ham hdep hK => ?_) ?_
            · skip
              obtain ⟨x103, h103, t103⟩ := hdep ⟨48, .data⟩ (by simp) rfl 103 rfl
              rw [show x103 = .bool true from t103] at h103
              clear t103
              obtain ⟨x107, h107, t107⟩ := hdep ⟨52, .data⟩ (by simp) rfl 107 rfl
              rw [show x107 = .bool true from t107] at h107
              clear t107
              have HK := Lib.hid (fun v_ w_ (h1_ : _) (h2_ : _) (h3_ : _) => hK v_ w_ h1_ h2_ h3_ (fun h_ => absurd h_ (by decide)))
              have HS := Lib.hid hS
              clear hK ham hdep hS hd
              refine go_plain rfl ?_
              go_simp
              exact HK.out _ w (Below.refl _ _) HS.out rfl
            refine steps_cons (not_ch (by kernel_rfl) fun _n act w K hS hd ham hdep hK => ?_) ?_
            · skip
              obtain ⟨x108, h108, t108⟩ := hdep ⟨53, .data⟩ (by simp) rfl 108 rfl
              rw [show x108 = .bool true from t108] at h108
              clear t108
              have HK := Lib.hid (fun v_ w_ (h1_ : _) (h2_ : _) (h3_ : _) => hK v_ w_ h1_ h2_ h3_ (fun h_ => absurd h_ (by decide)))
              have HS := Lib.hid hS
              clear hK ham hdep hS hd
              refine go_plain rfl ?_
              go_simp
              exact HK.out _ w (Below.refl _ _) HS.out rfl
            refine steps_cons (not_ch (by kernel_rfl) fun _n act w K hS hd ham hdep hK => ?_) ?_
            · skip
              have h2 := (ham 2 (by kernel_rfl)).trans e2
              obtain ⟨x109, h109, t109⟩ := hdep ⟨54, .guard⟩ (by simp) rfl 109 rfl
              rw [show x109 = .bool true from t109] at h109
              clear t109
              have HK := Lib.hid (fun v_ w_ (h1_ : _) (h2_ : _) (h3_ : _) => hK v_ w_ h1_ h2_ h3_ (fun h_ => absurd h_ (by decide)))
              have HS := Lib.hid hS
              clear hK ham hdep hS hd
              refine go_guard 54 109 true rfl rfl h109 ?_
              obtain ⟨c0, c1, c2, c3⟩ := cellsK hFU HS.out.1
              go_simp
              exact HK.out _ w (Below.refl _ _) HS.out rfl
            refine steps_cons (not_ch (by kernel_rfl) fun _n act w K hS hd ham hdep hK => ?_) ?_
            · skip
              obtain ⟨x109, h109, t109⟩ := hdep ⟨54, .chain⟩ (by simp) rfl 109 rfl
              rw [show x109 = .bool true from t109] at h109
              clear t109
              obtain ⟨x110, h110, t110⟩ := hdep ⟨55, .data⟩ (by simp) rfl 110 rfl
              rw [show x110 = .agg #[.int .u64 18446744073709551615, .int .u64 18446744073709551615, .int .u64 18446744073709551615, .int .u64 18446744073709551615] from t110] at h110
              clear t110
              have HK := Lib.hid (fun v_ w_ (h1_ : _) (h2_ : _) (h3_ : _) => hK v_ w_ h1_ h2_ h3_ (fun h_ => absurd h_ (by decide)))
              have HS := Lib.hid hS
              clear hK ham hdep hS hd
              refine go_guard 54 109 true rfl rfl h109 ?_
              go_simp
              refine (bhas_any wf_full (256) w).mono ?_
              rintro e w' ⟨rfl, hb⟩
              exact HK.out _ w' hb (StB.bel HS.out hb) (show Value.bool (hasI FULL (256)) = .bool false by kernel_rfl)
            refine steps_cons (not_ch (by kernel_rfl) fun _n act w K hS hd ham hdep hK => ?_) ?_
            · skip
              obtain ⟨x109, h109, t109⟩ := hdep ⟨54, .guard⟩ (by simp) rfl 109 rfl
              rw [show x109 = .bool true from t109] at h109
              clear t109
              obtain ⟨x111, h111, t111⟩ := hdep ⟨56, .data⟩ (by simp) rfl 111 rfl
              rw [show x111 = .bool false from t111] at h111
              clear t111
              have HK := Lib.hid (fun v_ w_ (h1_ : _) (h2_ : _) (h3_ : _) => hK v_ w_ h1_ h2_ h3_ (fun h_ => absurd h_ (by decide)))
              have HS := Lib.hid hS
              clear hK ham hdep hS hd
              refine go_guard 54 109 true rfl rfl h109 ?_
              go_simp
              exact HK.out _ w (Below.refl _ _) HS.out rfl
            refine steps_cons (not_ch (by kernel_rfl) fun _n act w K hS hd ham hdep hK => ?_) ?_
            · skip
              obtain ⟨x109, h109, t109⟩ := hdep ⟨54, .data⟩ (by simp) rfl 109 rfl
              rw [show x109 = .bool true from t109] at h109
              clear t109
              obtain ⟨x112, h112, t112⟩ := hdep ⟨57, .data⟩ (by simp) rfl 112 rfl
              rw [show x112 = .bool true from t112] at h112
              clear t112
              have HK := Lib.hid (fun v_ w_ (h1_ : _) (h2_ : _) (h3_ : _) => hK v_ w_ h1_ h2_ h3_ (fun h_ => absurd h_ (by decide)))
              have HS := Lib.hid hS
              clear hK ham hdep hS hd
              refine go_plain rfl ?_
              go_simp
              exact HK.out _ w (Below.refl _ _) HS.out rfl
            refine steps_cons (not_ch (by kernel_rfl) fun _n act w K hS hd ham hdep hK => ?_) ?_
            · skip
              obtain ⟨x113, h113, t113⟩ := hdep ⟨58, .data⟩ (by simp) rfl 113 rfl
              rw [show x113 = .bool true from t113] at h113
              clear t113
              have HK := Lib.hid (fun v_ w_ (h1_ : _) (h2_ : _) (h3_ : _) => hK v_ w_ h1_ h2_ h3_ (fun h_ => absurd h_ (by decide)))
              have HS := Lib.hid hS
              clear hK ham hdep hS hd
              refine go_plain rfl ?_
              go_simp
              exact HK.out _ w (Below.refl _ _) HS.out rfl
            exact steps_done 60 (by omega)
          · intro vs a w' hF hty _ hS
            have hr := hF.mine 59 0 (by kernel_rfl) (by kernel_rfl)
            rw [show vs 59 = .bool true from hty 59 (by decide)] at hr
            have hd := hF.defers.trans d0
            have HX := Lib.hid (fb_call HBL.out hS.1)
            clear hF hty hS hS0
            obtain ⟨tm, df⟩ := a
            obtain rfl : df = [] := hd
            go_wp2
            exact bodyPost_ret (by simp [results, Tryd.results7, go_sem, hr]) rfl ⟨rfl, HX.out⟩
end Go.Proofs.YtikoabnonmkhkaaDoor
