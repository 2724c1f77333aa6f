/- Walks of the document's answer for sets: Or, Same. -/
import Derived.Test.YtikoabnonmkhkaaDoorBitsF
namespace Go.Proofs.YtikoabnonmkhkaaDoor
open Go.RowKit

theorem radd_any (v : Value) (L : List Nat) (i : Int) (w : World) (hI : Ints w w.heap.size v (zl L)) (hl : L.length ≤ 1000) : Calls Tryd.prog 13 #[v, .int .i64 i] w (AddPost L i w) := by
  by_cases h : (i < 0 ∨ 256 ≤ i) ∨ i ∈ zl L
  · exact radd_same v L i w hI hl h
  · obtain ⟨n, rfl⟩ := Int.eq_ofNat_of_zero_le (show 0 ≤ i by omega)
    exact radd_new v L n w hI hl (by omega) (fun h' => h (.inr h'))
/-- What Or leaves. -/
def OrPost (L T : List Nat) (w : World) (e : Ending) (w' : World) : Prop := ∃ u M, e = .returned u ∧ Ints w' w'.heap.size u (zl M) ∧ Below w.heap.size w w' ∧ M.length ≤ L.length + T.length ∧ ∀ x : Nat, x ∈ M ↔ x ∈ L ∨ (x ∈ T ∧ x < 256)
set_option maxHeartbeats 2000000 in
theorem ror_any (v : Value) (L : List Nat) (vt : Value) (T : List Nat) (w : World) (hI : Ints w w.heap.size v (zl L)) (hl : L.length ≤ 400) (hT : Ints w w.heap.size vt (zl T)) (htl : T.length ≤ 400) :
    Calls Tryd.prog 25 #[v, vt] w (OrPost L T w) := by
  obtain ⟨av, cv, rfl⟩ := ints_form hT
  have HI := Lib.hid hI
  have HT := Lib.hid hT
  clear hI hT
  go_enter Tryd.func25, Tryd.ntmps25
  go_wp2
  go_loopw [5, 0] (fun x u wr => ∃ (k : Nat) (M : List Nat), k ≤ T.length ∧ x = .int .i64 k ∧ Ints wr wr.heap.size u (zl M) ∧ Below w.heap.size w wr ∧ Hid (M.length ≤ L.length + k ∧ ∀ x : Nat, x ∈ M ↔ x ∈ L ∨ (x ∈ T.take k ∧ x < 256))) (fun x _ _ => T.length - (intOf x).toNat)
  case atStart => exact ⟨0, L, by omega, rfl, HI.out, Below.refl _ _, by omega, fun x => by simp⟩
  case round =>
    obtain ⟨k, M, hk, rfl, hown, hbel, hM⟩ := hrel
    have hml := hM.out.1
    by_cases hlt : k < T.length
    · obtain ⟨b, o, c, e, hb, hc⟩ := ints_cell HT.out hlt
      cases e
      have hck := (hbel.cell (p := ⟨b, o + k, none⟩) hb).trans (hc k hlt)
      have hts : T.take (k + 1) = T.take k ++ [T.getD k 0] := by
        rw [List.take_succ_eq_append_getElem hlt]; simp [List.getD_eq_getElem?_getD, hlt]
      obtain ⟨y, hy⟩ : ∃ y, T.getD k 0 = y := ⟨_, rfl⟩
      rw [hy] at hck hts
      have HL := Lib.hid (And.intro hown (And.intro hbel hts))
      clear hown hbel hts hy hb hc
      go_wp2_with fail
      refine (radd_any _ M (y : Int) _ HL.out.1 (by omega)).mono ?_
      rintro e w1 ⟨u', M', rfl, hI', hb', hl', hm'⟩
      have HN := Lib.hid (And.intro hI' (And.intro (fb_call HL.out.2.1 hb') (And.intro hl' hm')))
      clear hI' hb' hl' hm'
      go_wp2
      go_roundw
      case rel =>
        refine ⟨k + 1, M', by omega, by go_num, HN.out.1, HN.out.2.1, by have := HN.out.2.2.1; omega, fun x => ?_⟩
        rw [HN.out.2.2.2 x, hM.out.2 x, HL.out.2.2]
        simp only [List.mem_append, List.mem_singleton]
        constructor
        · rintro ((h | ⟨h, h'⟩) | ⟨h, h'⟩)
          · exact .inl h
          · exact .inr ⟨.inl h, h'⟩
          · exact .inr ⟨.inr (by omega), h'⟩
        · rintro (h | ⟨h | h, h'⟩)
          · exact .inl (.inl h)
          · exact .inl (.inr ⟨h, h'⟩)
          · exact .inr ⟨by omega, h'⟩
      case measure => simp [intOf]; omega
    · obtain rfl : k = T.length := by omega
      rw [List.take_length] at hM
      have HL := Lib.hid (And.intro hown hbel)
      clear hown hbel
      go_wp2
      go_ret
      exact ⟨_, M, rfl, HL.out.1, HL.out.2, hM.out⟩
set_option maxHeartbeats 2000000 in
theorem same_any (n : Nat) (v u : Value) (L : List Nat) (w : World) (hI : Ints w n v (zl L)) (hJ : Ints w n u (zl L)) (hl : L.length ≤ 1000) :
    Calls Tryd.prog 19 #[v, u] w fun e w' => e = .returned (.bool true) ∧ Below w.heap.size w w' := by
  obtain ⟨av, cv, rfl⟩ := ints_form hI
  obtain ⟨au, cu, rfl⟩ := ints_form hJ
  have HI := Lib.hid (And.intro hI hJ)
  clear hI hJ
  go_enter Tryd.func19, Tryd.ntmps19
  go_wp2
  go_loopw [5] (fun x wr => ∃ k : Nat, k ≤ L.length ∧ x = .int .i64 k ∧ ∃ m, wr = w.drewN m) (fun x _ => L.length - (intOf x).toNat)
  case atStart => exact ⟨0, by omega, rfl, 0, rfl⟩
  case round =>
    obtain ⟨k, hk, rfl, m, rfl⟩ := hrel
    by_cases hlt : k < L.length
    · obtain ⟨b, o, c, e, hb, hc⟩ := ints_cell HI.out.1 hlt
      cases e
      obtain ⟨b', o', c', e, hb', hc'⟩ := ints_cell HI.out.2 hlt
      cases e
      have h1 := hc k hlt
      have h2 := hc' k hlt
      obtain ⟨y, hy⟩ : ∃ y, L.getD k 0 = y := ⟨_, rfl⟩
      rw [hy] at h1 h2
      have hi1 : (k : Int) < L.length := by omega
      have hi0 : (0 : Int) ≤ k := by omega
      clear hc hc' hy hb hb'
      go_wp2
      go_quiet (fail)
      go_wp2
      go_roundw
      case rel => exact ⟨k + 1, by omega, by go_num, _, rfl⟩
      case measure => simp [intOf]; omega
    · obtain rfl : k = L.length := by omega
      go_wp2
      go_ret
      exact ⟨rfl, fb_drewN (Below.refl _ _) _⟩
end Go.Proofs.YtikoabnonmkhkaaDoor
