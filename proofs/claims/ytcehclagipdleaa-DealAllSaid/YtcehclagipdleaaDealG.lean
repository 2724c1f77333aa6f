/- The walk of the document's Turned. No condition. -/
import Derived.Test.YtcehclagipdleaaDealF
namespace Go.Proofs.Ytcehclagipdleaa
open Go.RowKit

set_option maxRecDepth 100000 in
set_option maxHeartbeats 2000000 in
theorem rturned_len (x y : Option Addr) (n m c d : Nat) (h : n ≠ m) (w : World) : Calls Try.prog 13 #[.slice x n c, .slice y m d] w fun e w' => e = .returned (.slice none 0 0) ∧ Below w.heap.size w w' := by
  have hB : ((n : Int) != (m : Int)) = true := by simp; omega
  clear h
  go_enter Try.func13, Try.ntmps13
  go_wp2
  go_ret
  exact ⟨rfl, Below.refl _ _⟩
set_option maxRecDepth 100000 in
set_option maxHeartbeats 2000000 in
theorem rturned_nil (x y : Option Addr) (c d : Nat) (w : World) : Calls Try.prog 13 #[.slice x 0 c, .slice y 0 d] w fun e w' => e = .returned (.slice none 0 0) ∧ Below w.heap.size w w' := by
  go_enter Try.func13, Try.ntmps13
  go_wp2
  refine wp_loop_rounds 1 ?_
  rw [rounds_succ]
  go_wp2
  refine wp_loop_rounds 1 ?_
  rw [rounds_succ]
  go_wp2
  go_ret
  exact ⟨rfl, Below.refl _ _⟩
theorem count_snoc (l : List Int) (x i : Int) : (l ++ [x]).count i = l.count i + (if x = i then 1 else 0) := by
  rw [List.count_append, List.count_singleton]
  by_cases h : x = i <;> simp [h]
set_option maxRecDepth 100000 in
set_option maxHeartbeats 2000000 in
theorem rturned_cells (b o b' o' n c d : Nat) (l perm : List Int) (w : World) (hl : l.length = n) (hm : perm.length = n) (hn : n ≤ 1000000) (hb : b < w.heap.size) (hb' : b' < w.heap.size)
    (h1 : ∀ j, j < n → w.cell? ⟨b, o + j, none⟩ = some (.int .i64 (l.getD j 0))) (h2 : ∀ j, j < n → w.cell? ⟨b', o' + j, none⟩ = some (.int .i64 (perm.getD j 0))) :
    Calls Try.prog 13 #[.slice (some ⟨b, o, none⟩) n c, .slice (some ⟨b', o', none⟩) n d] w fun e w' => ∃ v, e = .returned v ∧ Ints w' w'.heap.size v (turnOf l perm) ∧ Below w.heap.size w w' := by
  obtain ⟨i0, hi, hz0, hz1, hz2⟩ := info_parts infoI
  have H1 := Lib.hid h1
  have H2 := Lib.hid h2
  have HL := Lib.hid (And.intro hl hm)
  have HT : ∀ k, k < n → perm.take (k + 1) = perm.take k ++ [perm.getD k 0] := fun k hk => by
    rw [List.take_succ_eq_append_getElem (by omega)]; simp [List.getD_eq_getElem?_getD, hm, hk]
  have HTK := Lib.hid HT
  have HF : ∀ i, i < n → perm.count (i : Int) ≠ 1 → turnOf l perm = [] := fun i hi hc => by
    unfold turnOf
    rw [if_neg (fun h => hc ((okT_count hm).1 (by rw [← hl]; exact h.2) i hi))]
  have HFAIL := Lib.hid HF
  clear h1 h2 hl hm HT HF
  go_enter Try.func13, Try.ntmps13
  go_wp2
  go_loop [5] (fun i => ∃ k : Nat, k ≤ n ∧ i = .int .i64 k ∧ Hid (∀ j, j < k → perm.count (j : Int) = 1)) (fun i => n - (intOf i).toNat)
  case atStart => exact ⟨0, Nat.zero_le _, rfl, fun j hj => by omega⟩
  case round =>
    obtain ⟨i, hi', rfl, hcs⟩ := hrel
    by_cases hlt : i < n
    · go_wp2
      go_loop [6, 7] (fun c k => ∃ (q z : Nat), q ≤ n ∧ z ≤ q ∧ k = .int .i64 q ∧ c = .int .i64 z ∧ Hid ((perm.take q).count (i : Int) = z)) (fun _ k => n - (intOf k).toNat)
      case atStart => exact ⟨0, 0, Nat.zero_le _, Nat.le_refl _, rfl, rfl, by simp [Hid]⟩
      case round =>
        obtain ⟨q, z, hq, hzq, rfl, rfl, hz⟩ := hrel
        by_cases hlt2 : q < n
        · have hc := H2.out q hlt2
          have hst : (perm.take (q + 1)).count (i : Int) = z + (if perm.getD q 0 = (i : Int) then 1 else 0) := by
            rw [HTK.out q hlt2, count_snoc, hz.out]
          obtain ⟨x, hx⟩ : ∃ x, perm.getD q 0 = x := ⟨_, rfl⟩
          rw [hx] at hc hst
          clear hx
          by_cases he : x = (i : Int)
          · rw [if_pos he] at hst
            have HST := Lib.hid hst
            clear hst hz
            subst he
            go_wp2
            go_round
            case rel => exact ⟨q + 1, z + 1, by omega, by omega, by go_num, by go_num, HST.out⟩
            case measure => simp [intOf]; omega
          · rw [if_neg he] at hst
            have HST := Lib.hid hst
            have hB : (x == (i : Int)) = false := by simp [he]
            clear hst hz he
            go_wp2
            go_round
            case rel => exact ⟨q + 1, z, by omega, by omega, by go_num, rfl, HST.out⟩
            case measure => simp [intOf]; omega
        · obtain rfl : n = q := by omega
          have hz2 : perm.count (i : Int) = z := by
            have := hz.out
            rwa [List.take_of_length_le (by rw [HL.out.2]; exact Nat.le_refl _)] at this
          clear hz hlt2
          by_cases h1 : z = 1
          · subst h1
            have HZ := Lib.hid hz2
            clear hz2
            go_wp2
            go_round
            case rel => exact ⟨i + 1, by omega, by go_num, fun j hj => by
              by_cases e : j = i
              · rw [e]; exact HZ.out
              · exact hcs.out j (by omega)⟩
            case measure => simp [intOf]; omega
          · have HF := Lib.hid (HFAIL.out i hlt (by rw [hz2]; exact h1))
            have hB : ((z : Int) != 1) = true := by simp; omega
            clear hz2 h1
            go_wp2
            go_ret
            exact ⟨_, rfl, by rw [HF.out]; exact Ints.nil _ _, Below.refl _ _⟩
    · obtain rfl : n = i := by omega
      have hok : okT n [] perm = true := (okT_count HL.out.2).2 hcs.out
      have hT : turnOf l perm = pick l perm := by
        unfold turnOf
        rw [if_pos ⟨by rw [HL.out.1, HL.out.2], by rw [HL.out.1]; exact hok⟩]
        rfl
      have hrng : ∀ k, k < n → 0 ≤ perm.getD k 0 ∧ perm.getD k 0 < (n : Int) := fun k hk => by
        have h3 := ((okT_iff n perm [] (by simp)).1 hok).1 (perm.getD k 0) (by
          have : k < perm.length := by rw [HL.out.2]; exact hk
          simp [List.getD_eq_getElem?_getD, this])
        exact h3
      have HR := Lib.hid hrng
      have HTT := Lib.hid hT
      clear hok hT hrng hlt hcs hi'
      go_wp2
      go_loopw [8, 9] (fun v i wr => ∃ k : Nat, k ≤ n ∧ i = .int .i64 k ∧ IRow wr w.heap.size v (pick l (perm.take k)) ∧ Below w.heap.size w wr) (fun _ i _ => n - (intOf i).toNat)
      case atStart => exact ⟨0, Nat.zero_le _, rfl, IRow.nil _ _, Below.refl _ _⟩
      case round =>
        obtain ⟨k, hk, rfl, hown, hbel⟩ := hrel
        by_cases hlt : k < n
        · have hc1 : wr.cell? ⟨b', o' + k, none⟩ = some (.int .i64 (perm.getD k 0)) := (hbel.cell (p := ⟨b', o' + k, none⟩) hb').trans (H2.out k hlt)
          have hr := HR.out k hlt
          have htk := HTK.out k hlt
          obtain ⟨x, hx⟩ : ∃ x, perm.getD k 0 = x := ⟨_, rfl⟩
          rw [hx] at hc1 hr htk
          obtain ⟨z, rfl⟩ := Int.eq_ofNat_of_zero_le hr.1
          have hzn : z < n := by omega
          have hc2 : wr.cell? ⟨b, o + z, none⟩ = some (.int .i64 (l.getD z 0)) := (hbel.cell (p := ⟨b, o + z, none⟩) hb).trans (H1.out z hzn)
          obtain ⟨y, hy⟩ : ∃ y, l.getD z 0 = y := ⟨_, rfl⟩
          rw [hy] at hc2
          have HY := Lib.hid (And.intro hy htk)
          have hpk : (pick l (perm.take k)).length ≤ 1000000 := by simp [pick]; omega
          clear hx hr htk hy
          go_wp2_with (at_builtin; refine wpList_append_own _ rfl _ _ 22 rfl w.heap.size 3 i0 (.int .i64 0) 1 8 Try.underlying22 hi hz0 hz1 hz2 rfl (by decide) _ _ _ rfl (hown.alloc _) ⟨wr.heap.size, 0, none⟩ 1 1 [.int .i64 y] rfl rfl (cell_one_new _ _ _) (by simp [Value.oneCell']) (by unfold maxLen; omega) (by omega) (by have := hbel.size; simp; omega) ?_; intro v' w1 hown' hgrow hfr')
          go_roundw
          case rel =>
            refine ⟨k + 1, by omega, by go_num, ?_, IRow.appBel hbel hown hgrow⟩
            have := IRow.app hown'
            rw [HY.out.2]
            unfold pick at this ⊢
            rw [List.map_append, List.map_singleton, Int.toNat_natCast, HY.out.1]
            exact this
          case measure => simp [intOf]; omega
        · obtain rfl : n = k := by omega
          have hp : perm.take n = perm := List.take_of_length_le (by rw [HL.out.2]; exact Nat.le_refl _)
          rw [hp] at hown
          clear hp hlt
          go_wp2
          go_ret
          exact ⟨_, rfl, by rw [HTT.out]; exact hown.ints (Nat.le_refl _), hbel⟩

theorem rturned_any (n : Nat) (u v : Value) (l m : List Int) (w : World) (h1 : Ints w n u l) (h2 : Ints w n v m) (hn : l.length ≤ 1000000) (hnw : n ≤ w.heap.size) :
    Calls Try.prog 13 #[u, v] w fun e w' => ∃ x, e = .returned x ∧ Ints w' w'.heap.size x (turnOf l m) ∧ Below w.heap.size w w' := by
  obtain ⟨x, c, rfl, p1⟩ := h1.parts
  obtain ⟨y, d, rfl, p2⟩ := h2.parts
  by_cases hl : l.length = m.length
  · rcases p1 with rfl | ⟨b, o, rfl, hb1, q1⟩
    · obtain rfl : m = [] := List.eq_nil_of_length_eq_zero hl.symm
      exact (rturned_nil _ _ _ _ w).mono fun e w' ⟨he, hb⟩ => ⟨_, he, by rw [show turnOf [] [] = [] from rfl]; exact Ints.nil _ _, hb⟩
    · rcases p2 with rfl | ⟨b', o', rfl, hb2, q2⟩
      · obtain rfl : l = [] := List.eq_nil_of_length_eq_zero hl
        exact (rturned_nil _ _ _ _ w).mono fun e w' ⟨he, hb⟩ => ⟨_, he, by rw [show turnOf [] [] = [] from rfl]; exact Ints.nil _ _, hb⟩
      · rw [← hl] at q2 ⊢
        exact rturned_cells b o b' o' l.length c d l m w rfl hl.symm hn (by omega) (by omega) q1 q2
  · exact (rturned_len _ _ _ _ _ _ hl w).mono fun e w' ⟨he, hb⟩ => ⟨_, he, by rw [show turnOf l m = [] from by unfold turnOf; rw [if_neg (fun h => hl h.1)]]; exact Ints.nil _ _, hb⟩
end Go.Proofs.Ytcehclagipdleaa
