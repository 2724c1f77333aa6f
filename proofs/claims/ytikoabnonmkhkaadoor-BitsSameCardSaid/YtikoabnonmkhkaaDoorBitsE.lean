/- Walks of the document's answer for sets: Del, And, Minus, Next, Same. -/
import Derived.Test.YtikoabnonmkhkaaDoorBitsD
namespace Go.Proofs.YtikoabnonmkhkaaDoor
open Go.RowKit

set_option maxHeartbeats 2000000 in
theorem rdel_any (v : Value) (L : List Nat) (i : Int) (w : World) (hI : Ints w w.heap.size v (zl L)) (hl : L.length ≤ 1000) :
    Calls Tryd.prog 15 #[v, .int .i64 i] w fun e w' => ∃ u, e = .returned u ∧ Ints w' w'.heap.size u (zl (L.filter (fun x : Nat => decide ((x : Int) ≠ i)))) ∧ Below w.heap.size w w' := by
  obtain ⟨i0, hi, hz0, hz1, hz2⟩ := info_parts infoI
  obtain ⟨av, cv, rfl⟩ := ints_form hI
  have HI := Lib.hid hI
  clear hI
  go_enter Tryd.func15, Tryd.ntmps15
  go_wp2
  go_loopw [6, 5] (fun x u wr => ∃ k : Nat, k ≤ L.length ∧ x = .int .i64 k ∧ IRow wr w.heap.size u (zl ((L.take k).filter (fun x : Nat => decide ((x : Int) ≠ i)))) ∧ Below w.heap.size w wr) (fun x _ _ => L.length - (intOf x).toNat)
  case atStart => exact ⟨0, by omega, rfl, IRow.nil _ _, Below.refl _ _⟩
  case round =>
    obtain ⟨k, hk, rfl, hown, hbel⟩ := hrel
    by_cases hlt : k < L.length
    · obtain ⟨b, o, c, e, hb, hc⟩ := ints_cell HI.out hlt
      cases e
      have hck := (hbel.cell (p := ⟨b, o + k, none⟩) hb).trans (hc k hlt)
      have hts : L.take (k + 1) = L.take k ++ [L.getD k 0] := by
        rw [List.take_succ_eq_append_getElem hlt]; simp [List.getD_eq_getElem?_getD, hlt]
      obtain ⟨y, hy⟩ : ∃ y, L.getD k 0 = y := ⟨_, rfl⟩
      rw [hy] at hck hts
      obtain ⟨l, hle⟩ : ∃ l, (L.take k).filter (fun x : Nat => decide ((x : Int) ≠ i)) = l := ⟨_, rfl⟩
      have hll : l.length ≤ 1000 := by rw [← hle]; exact Nat.le_trans (List.length_filter_le _ _) (by rw [List.length_take]; omega)
      have hfs : (L.take (k + 1)).filter (fun x : Nat => decide ((x : Int) ≠ i)) = l ++ if (fun x : Nat => decide ((x : Int) ≠ i)) y then [y] else [] := by rw [hts, List.filter_append, hle]; by_cases hp : (fun x : Nat => decide ((x : Int) ≠ i)) y = true <;> simp_all
      rw [hle] at hown
      have hzl := zl_len l
      have hzl' : (zl l).length ≤ 1000 := by omega
      have HL := Lib.hid (And.intro hbel (And.intro hfs (And.intro hck (And.intro hb hc))))
      clear hts hy hle hfs hll hzl hbel hc hb
      by_cases hp : (fun x : Nat => decide ((x : Int) ≠ i)) y = true
      · have HP := Lib.hid hp
        have hq : ((y : Int) != i) = true := by simpa using HP.out
        clear hp
        go_wp2_with (at_builtin; refine wpList_append_own _ rfl _ _ 25 rfl w.heap.size 3 i0 (.int .i64 0) 1 8 Tryd.underlying25 hi hz0 hz1 hz2 rfl (by decide) _ _ _ rfl (hown.alloc _) ⟨wr.heap.size, 0, none⟩ 1 1 [.int .i64 y] rfl rfl (cell_one_new _ _ _) (by simp [Value.oneCell']) (by unfold maxLen; omega) (by omega) (by have := HL.out.1.size; simp; omega) ?_; intro v' w1 hown' hgrow hfr')
        go_roundw
        case rel =>
          refine ⟨k + 1, by omega, by go_num, ?_, IRow.appBel HL.out.1 hown hgrow⟩
          rw [HL.out.2.1, if_pos HP.out, zl_app]; exact IRow.app hown'
        case measure => simp [intOf]; omega
      · have HP := Lib.hid hp
        have hq : ((y : Int) != i) = false := by simpa using HP.out
        clear hp
        go_wp2
        go_roundw
        case rel =>
          refine ⟨k + 1, by omega, by go_num, ?_, HL.out.1⟩
          rw [HL.out.2.1, if_neg HP.out, List.append_nil]; exact hown
        case measure => simp [intOf]; omega
    · obtain rfl : k = L.length := by omega
      rw [List.take_length] at hown
      go_wp2
      go_ret
      exact ⟨_, rfl, hown.ints (Nat.le_refl _), hbel⟩
set_option maxHeartbeats 2000000 in
theorem rand_any (v : Value) (L : List Nat) (vm : Value) (M : List Nat) (w : World) (hI : Ints w w.heap.size v (zl L)) (hl : L.length ≤ 1000) (hM : Ints w w.heap.size vm (zl M)) (hml : M.length ≤ 1000) :
    Calls Tryd.prog 23 #[v, vm] w fun e w' => ∃ u, e = .returned u ∧ Ints w' w'.heap.size u (zl (L.filter (fun x : Nat => decide ((x : Int) ∈ zl M)))) ∧ Below w.heap.size w w' := by
  obtain ⟨i0, hi, hz0, hz1, hz2⟩ := info_parts infoI
  obtain ⟨av, cv, rfl⟩ := ints_form hI
  have HI := Lib.hid hI
  clear hI
  have HM := Lib.hid hM
  clear hM
  go_enter Tryd.func23, Tryd.ntmps23
  go_wp2
  go_loopw [6, 5] (fun x u wr => ∃ k : Nat, k ≤ L.length ∧ x = .int .i64 k ∧ IRow wr w.heap.size u (zl ((L.take k).filter (fun x : Nat => decide ((x : Int) ∈ zl M)))) ∧ Below w.heap.size w wr) (fun x _ _ => L.length - (intOf x).toNat)
  case atStart => exact ⟨0, by omega, rfl, IRow.nil _ _, Below.refl _ _⟩
  case round =>
    obtain ⟨k, hk, rfl, hown, hbel⟩ := hrel
    by_cases hlt : k < L.length
    · obtain ⟨b, o, c, e, hb, hc⟩ := ints_cell HI.out hlt
      cases e
      have hck := (hbel.cell (p := ⟨b, o + k, none⟩) hb).trans (hc k hlt)
      have hts : L.take (k + 1) = L.take k ++ [L.getD k 0] := by
        rw [List.take_succ_eq_append_getElem hlt]; simp [List.getD_eq_getElem?_getD, hlt]
      obtain ⟨y, hy⟩ : ∃ y, L.getD k 0 = y := ⟨_, rfl⟩
      rw [hy] at hck hts
      obtain ⟨l, hle⟩ : ∃ l, (L.take k).filter (fun x : Nat => decide ((x : Int) ∈ zl M)) = l := ⟨_, rfl⟩
      have hll : l.length ≤ 1000 := by rw [← hle]; exact Nat.le_trans (List.length_filter_le _ _) (by rw [List.length_take]; omega)
      have hfs : (L.take (k + 1)).filter (fun x : Nat => decide ((x : Int) ∈ zl M)) = l ++ if (fun x : Nat => decide ((x : Int) ∈ zl M)) y then [y] else [] := by rw [hts, List.filter_append, hle]; by_cases hp : (fun x : Nat => decide ((x : Int) ∈ zl M)) y = true <;> simp_all
      rw [hle] at hown
      have hzl := zl_len l
      have hzl' : (zl l).length ≤ 1000 := by omega
      have HL := Lib.hid (And.intro hbel (And.intro hfs (And.intro hck (And.intro hb hc))))
      clear hts hy hle hfs hll hzl hbel hc hb
      by_cases hp : (fun x : Nat => decide ((x : Int) ∈ zl M)) y = true
      · have HP := Lib.hid hp
        have hq : decide ((y : Int) ∈ zl M) = true := by have := HP.out; simpa using this
        clear hp
        go_wp2_with fail
        refine (rhas_any w.heap.size vm M (y : Int) _ (HM.out.below HL.out.1 (Nat.le_refl _)) (by omega)).mono ?_
        rintro e w' ⟨rfl, rfl⟩
        rw [hq]
        clear hq
        go_wp2_with (at_builtin; refine wpList_append_own _ rfl _ _ 25 rfl w.heap.size 3 i0 (.int .i64 0) 1 8 Tryd.underlying25 hi hz0 hz1 hz2 rfl (by decide) _ _ _ rfl (hown.alloc _) ⟨wr.heap.size, 0, none⟩ 1 1 [.int .i64 y] rfl rfl (cell_one_new _ _ _) (by simp [Value.oneCell']) (by unfold maxLen; omega) (by omega) (by have := HL.out.1.size; simp; omega) ?_; intro v' w1 hown' hgrow hfr')
        go_roundw
        case rel =>
          refine ⟨k + 1, by omega, by go_num, ?_, IRow.appBel HL.out.1 hown hgrow⟩
          rw [HL.out.2.1, if_pos HP.out, zl_app]; exact IRow.app hown'
        case measure => simp [intOf]; omega
      · have HP := Lib.hid hp
        have hq : decide ((y : Int) ∈ zl M) = false := by have := HP.out; simpa using this
        clear hp
        go_wp2_with fail
        refine (rhas_any w.heap.size vm M (y : Int) _ (HM.out.below HL.out.1 (Nat.le_refl _)) (by omega)).mono ?_
        rintro e w' ⟨rfl, rfl⟩
        rw [hq]
        clear hq
        go_wp2
        go_roundw
        case rel =>
          refine ⟨k + 1, by omega, by go_num, ?_, HL.out.1⟩
          rw [HL.out.2.1, if_neg HP.out, List.append_nil]; exact hown
        case measure => simp [intOf]; omega
    · obtain rfl : k = L.length := by omega
      rw [List.take_length] at hown
      go_wp2
      go_ret
      exact ⟨_, rfl, hown.ints (Nat.le_refl _), hbel⟩
set_option maxHeartbeats 2000000 in
theorem rminus_any (v : Value) (L : List Nat) (vm : Value) (M : List Nat) (w : World) (hI : Ints w w.heap.size v (zl L)) (hl : L.length ≤ 1000) (hM : Ints w w.heap.size vm (zl M)) (hml : M.length ≤ 1000) :
    Calls Tryd.prog 27 #[v, vm] w fun e w' => ∃ u, e = .returned u ∧ Ints w' w'.heap.size u (zl (L.filter (fun x : Nat => !decide ((x : Int) ∈ zl M)))) ∧ Below w.heap.size w w' := by
  obtain ⟨i0, hi, hz0, hz1, hz2⟩ := info_parts infoI
  obtain ⟨av, cv, rfl⟩ := ints_form hI
  have HI := Lib.hid hI
  clear hI
  have HM := Lib.hid hM
  clear hM
  go_enter Tryd.func27, Tryd.ntmps27
  go_wp2
  go_loopw [6, 5] (fun x u wr => ∃ k : Nat, k ≤ L.length ∧ x = .int .i64 k ∧ IRow wr w.heap.size u (zl ((L.take k).filter (fun x : Nat => !decide ((x : Int) ∈ zl M)))) ∧ Below w.heap.size w wr) (fun x _ _ => L.length - (intOf x).toNat)
  case atStart => exact ⟨0, by omega, rfl, IRow.nil _ _, Below.refl _ _⟩
  case round =>
    obtain ⟨k, hk, rfl, hown, hbel⟩ := hrel
    by_cases hlt : k < L.length
    · obtain ⟨b, o, c, e, hb, hc⟩ := ints_cell HI.out hlt
      cases e
      have hck := (hbel.cell (p := ⟨b, o + k, none⟩) hb).trans (hc k hlt)
      have hts : L.take (k + 1) = L.take k ++ [L.getD k 0] := by
        rw [List.take_succ_eq_append_getElem hlt]; simp [List.getD_eq_getElem?_getD, hlt]
      obtain ⟨y, hy⟩ : ∃ y, L.getD k 0 = y := ⟨_, rfl⟩
      rw [hy] at hck hts
      obtain ⟨l, hle⟩ : ∃ l, (L.take k).filter (fun x : Nat => !decide ((x : Int) ∈ zl M)) = l := ⟨_, rfl⟩
      have hll : l.length ≤ 1000 := by rw [← hle]; exact Nat.le_trans (List.length_filter_le _ _) (by rw [List.length_take]; omega)
      have hfs : (L.take (k + 1)).filter (fun x : Nat => !decide ((x : Int) ∈ zl M)) = l ++ if (fun x : Nat => !decide ((x : Int) ∈ zl M)) y then [y] else [] := by rw [hts, List.filter_append, hle]; by_cases hp : (fun x : Nat => !decide ((x : Int) ∈ zl M)) y = true <;> simp_all
      rw [hle] at hown
      have hzl := zl_len l
      have hzl' : (zl l).length ≤ 1000 := by omega
      have HL := Lib.hid (And.intro hbel (And.intro hfs (And.intro hck (And.intro hb hc))))
      clear hts hy hle hfs hll hzl hbel hc hb
      by_cases hp : (fun x : Nat => !decide ((x : Int) ∈ zl M)) y = true
      · have HP := Lib.hid hp
        have hq : decide ((y : Int) ∈ zl M) = false := by have := HP.out; simpa using this
        clear hp
        go_wp2_with fail
        refine (rhas_any w.heap.size vm M (y : Int) _ (HM.out.below HL.out.1 (Nat.le_refl _)) (by omega)).mono ?_
        rintro e w' ⟨rfl, rfl⟩
        rw [hq]
        clear hq
        go_wp2_with (at_builtin; refine wpList_append_own _ rfl _ _ 25 rfl w.heap.size 3 i0 (.int .i64 0) 1 8 Tryd.underlying25 hi hz0 hz1 hz2 rfl (by decide) _ _ _ rfl (hown.alloc _) ⟨wr.heap.size, 0, none⟩ 1 1 [.int .i64 y] rfl rfl (cell_one_new _ _ _) (by simp [Value.oneCell']) (by unfold maxLen; omega) (by omega) (by have := HL.out.1.size; simp; omega) ?_; intro v' w1 hown' hgrow hfr')
        go_roundw
        case rel =>
          refine ⟨k + 1, by omega, by go_num, ?_, IRow.appBel HL.out.1 hown hgrow⟩
          rw [HL.out.2.1, if_pos HP.out, zl_app]; exact IRow.app hown'
        case measure => simp [intOf]; omega
      · have HP := Lib.hid hp
        have hq : decide ((y : Int) ∈ zl M) = true := by have := HP.out; simpa using this
        clear hp
        go_wp2_with fail
        refine (rhas_any w.heap.size vm M (y : Int) _ (HM.out.below HL.out.1 (Nat.le_refl _)) (by omega)).mono ?_
        rintro e w' ⟨rfl, rfl⟩
        rw [hq]
        clear hq
        go_wp2
        go_roundw
        case rel =>
          refine ⟨k + 1, by omega, by go_num, ?_, HL.out.1⟩
          rw [HL.out.2.1, if_neg HP.out, List.append_nil]; exact hown
        case measure => simp [intOf]; omega
    · obtain rfl : k = L.length := by omega
      rw [List.take_length] at hown
      go_wp2
      go_ret
      exact ⟨_, rfl, hown.ints (Nat.le_refl _), hbel⟩
/-- The first of a list that is not below i. -/
def FirstGe (L : List Nat) (i v : Int) : Prop := (v = -1 ∧ ∀ x : Nat, x ∈ L → (x : Int) < i) ∨ ∃ (A : List Nat) (y : Nat) (B : List Nat), L = A ++ y :: B ∧ v = ((y : Nat) : Int) ∧ i ≤ v ∧ ∀ x : Nat, x ∈ A → (x : Int) < i
def FirstPost (L : List Nat) (i : Int) (w : World) (e : Ending) (w' : World) : Prop := ∃ v, e = .returned (.int .i64 v) ∧ FirstGe L i v ∧ w = w'
set_option maxHeartbeats 2000000 in
theorem rnext_any (n : Nat) (v : Value) (L : List Nat) (i : Int) (w : World) (hI : Ints w n v (zl L)) (hl : L.length ≤ 1000) :
    Calls Tryd.prog 18 #[v, .int .i64 i] w (FirstPost L i w) := by
  obtain ⟨av, cv, rfl⟩ := ints_form hI
  have HI := Lib.hid hI
  clear hI
  go_enter Tryd.func18, Tryd.ntmps18
  go_wp2
  go_loop [5] (fun x => ∃ k : Nat, k ≤ L.length ∧ x = .int .i64 k ∧ Hid (∀ x : Nat, x ∈ L.take k → (x : Int) < i)) (fun x => L.length - (intOf x).toNat)
  case atStart => exact ⟨0, by omega, rfl, fun x hx => by simp at hx⟩
  case round =>
    obtain ⟨k, hk, rfl, hno⟩ := hrel
    by_cases hlt : k < L.length
    · obtain ⟨b, o, c, e, hb, hc⟩ := ints_cell HI.out hlt
      cases e
      have hck := hc k hlt
      have hts : L.take (k + 1) = L.take k ++ [L.getD k 0] := by
        rw [List.take_succ_eq_append_getElem hlt]; simp [List.getD_eq_getElem?_getD, hlt]
      have hsp : L = L.take k ++ L.getD k 0 :: L.drop (k + 1) := by
        have : L.drop k = L.getD k 0 :: L.drop (k + 1) := by rw [List.drop_eq_getElem_cons hlt]; simp [List.getD_eq_getElem?_getD, hlt]
        rw [← this, List.take_append_drop]
      obtain ⟨y, hy⟩ : ∃ y, L.getD k 0 = y := ⟨_, rfl⟩
      rw [hy] at hck hts hsp
      have HT := Lib.hid (And.intro hts hsp)
      clear hts hsp hy hc hb
      by_cases hyi : i ≤ (y : Int)
      · go_wp2
        go_ret
        exact ⟨y, rfl, .inr ⟨_, y, _, HT.out.2, rfl, hyi, hno.out⟩, rfl⟩
      · go_wp2
        go_round
        case rel =>
          refine ⟨k + 1, by omega, by go_num, fun x hx => ?_⟩
          rw [HT.out.1, List.mem_append] at hx
          rcases hx with hx | hx
          · exact hno.out x hx
          · rw [List.mem_singleton] at hx; subst hx; omega
        case measure => simp [intOf]; omega
    · obtain rfl : k = L.length := by omega
      go_wp2
      go_ret
      exact ⟨-1, rfl, .inl ⟨rfl, fun x hx => hno.out x (by rw [List.take_length]; exact hx)⟩, rfl⟩
end Go.Proofs.YtikoabnonmkhkaaDoor
