/- The walk of sound, of layer 9. No condition. -/
import Derived.Test.YtfkkkndigkchcaaZoneJ
namespace Go.Proofs.Ytfkkkndigkchcaa
open Go.RowKit
attribute [local irreducible] Calls

theorem nd_sub : ∀ (A B : List Nat), A.Nodup → (∀ x ∈ A, x ∈ B) → A.length ≤ B.length
  | [], _, _, _ => Nat.zero_le _
  | a :: A, B, hn, hs => by
    have hn' := List.nodup_cons.1 hn
    have := nd_sub A (B.erase a) hn'.2 fun x hx => (List.mem_erase_of_ne (by intro e; subst e; exact hn'.1 hx)).2 (hs x (List.mem_cons_of_mem _ hx))
    have hl := List.length_erase_of_mem (hs a (by simp))
    have hp : 0 < B.length := List.length_pos_of_mem (hs a (by simp))
    simp only [List.length_cons]; omega
/-- How many below s are in four lists. -/
def inU (L : List (List Nat)) (s : Nat) : Bool := (L.getD 0 []).contains s || (L.getD 1 []).contains s || (L.getD 2 []).contains s || (L.getD 3 []).contains s
def cntU (L : List (List Nat)) : Nat → Nat
  | 0 => 0
  | s + 1 => cntU L s + (if inU L s then 1 else 0)
theorem cntU_filter (L : List (List Nat)) (s : Nat) : cntU L s = ((List.range s).filter (inU L)).length := by
  induction s with
  | zero => rfl
  | succ s ih =>
    rw [cntU, ih, List.range_succ, List.filter_append, List.length_append]
    by_cases h : inU L s = true
    · simp [h]
    · simp [h]
def lenU (L : List (List Nat)) : Nat → Nat
  | 0 => 0
  | k + 1 => lenU L k + (L.getD k []).length
theorem inU_iff {w0 w : World} {col : Nat → Nat} {c k : Nat} {b : ZB} {q : List Int × List (Int × Int)} {L : List (List Nat)} (h : ZL w0 w col c b ⟨0, 4, 30⟩ k q L) (s : Nat) : inU L s = true ↔ ∃ z, s ∈ L.getD z [] := by
  unfold inU
  simp only [Bool.or_eq_true, List.contains_iff_mem]
  constructor
  · rintro (((h | h) | h) | h)
    · exact ⟨0, h⟩
    · exact ⟨1, h⟩
    · exact ⟨2, h⟩
    · exact ⟨3, h⟩
  · rintro ⟨z, hz⟩
    have h4 : z < 4 := h.out hz
    match z, h4, hz with
    | 0, _, hz => exact .inl (.inl (.inl hz))
    | 1, _, hz => exact .inl (.inl (.inr hz))
    | 2, _, hz => exact .inl (.inr hz)
    | 3, _, hz => exact .inr hz
theorem cnt_all {w0 w : World} {col : Nat → Nat} {c k : Nat} {b : ZB} {q : List Int × List (Int × Int)} {L : List (List Nat)} (h : ZL w0 w col c b ⟨0, 4, 30⟩ k q L) : cntU L 30 = lenU L 4 := by
  have hU : (L.getD 0 [] ++ (L.getD 1 [] ++ (L.getD 2 [] ++ L.getD 3 []))).Nodup := by
    have dj : ∀ x z, x ≠ z → ∀ a ∈ L.getD x [], ∀ b ∈ L.getD z [], a ≠ b := fun x z hne a ha b hb e => hne (h.one ha (e ▸ hb))
    refine List.nodup_append.2 ⟨h.nodup 0, List.nodup_append.2 ⟨h.nodup 1, List.nodup_append.2 ⟨h.nodup 2, h.nodup 3, dj 2 3 (by decide)⟩, fun a ha b hb => ?_⟩, fun a ha b hb => ?_⟩
    · rcases List.mem_append.1 hb with hb | hb
      · exact dj 1 2 (by decide) a ha b hb
      · exact dj 1 3 (by decide) a ha b hb
    · rcases List.mem_append.1 hb with hb | hb
      · exact dj 0 1 (by decide) a ha b hb
      · rcases List.mem_append.1 hb with hb | hb
        · exact dj 0 2 (by decide) a ha b hb
        · exact dj 0 3 (by decide) a ha b hb
  have mU : ∀ s, s ∈ L.getD 0 [] ++ (L.getD 1 [] ++ (L.getD 2 [] ++ L.getD 3 [])) ↔ ∃ z, s ∈ L.getD z [] := fun s => by
    rw [← inU_iff h s]
    unfold inU
    simp only [Bool.or_eq_true, List.contains_iff_mem, List.mem_append, or_assoc]
  rw [cntU_filter]
  have hl : lenU L 4 = (L.getD 0 [] ++ (L.getD 1 [] ++ (L.getD 2 [] ++ L.getD 3 []))).length := by
    simp only [lenU, List.length_append]; omega
  rw [hl]
  refine Nat.le_antisymm (nd_sub _ _ (List.Nodup.sublist List.filter_sublist List.nodup_range) fun x hx => ?_) (nd_sub _ _ hU fun x hx => ?_)
  · exact (mU x).2 ((inU_iff h x).1 (List.mem_filter.1 hx).2)
  · have := (mU x).1 hx
    refine List.mem_filter.2 ⟨List.mem_range.2 ?_, (inU_iff h x).2 this⟩
    obtain ⟨z, hz⟩ := this
    exact h.sl hz
theorem cntU_le (L : List (List Nat)) (s : Nat) : cntU L s ≤ s := by
  induction s with
  | zero => exact Nat.le_refl _
  | succ s ih => rw [cntU]; split <;> omega
theorem lenU_le {w0 w : World} {col : Nat → Nat} {c k : Nat} {b : ZB} {q : List Int × List (Int × Int)} {L : List (List Nat)} (h : ZL w0 w col c b ⟨0, 4, 30⟩ k q L) (n : Nat) : lenU L n ≤ 30 * n := by
  induction n with
  | zero => exact Nat.le_refl _
  | succ n ih => rw [lenU]; have : (L.getD n []).length ≤ 30 := h.le n; omega
theorem zl_at_in {w0 w : World} {col : Nat → Nat} {c k : Nat} {b : ZB} {g : ZG} {q : List Int × List (Int × Int)} {L : List (List Nat)} (h : ZL w0 w col c b g k q L) (z j : Nat) (hj : j < (L.getD z []).length) : Calls Try.prog 64 #[.pointer (some ⟨b.Z, 0, none⟩), .int .i64 (z : Int), .int .i64 (j : Int)] w fun e w' => e = .returned (.tuple #[.int .i64 ((L.getD z []).getD j 0 : Nat), .int .i64 0]) ∧ Below w.heap.size w w' := by
  have := zl_at h (z : Int) (j : Int)
  unfold zat at this
  rw [zget_nat, if_pos (by omega), Int.toNat_natCast] at this
  exact this
set_option maxRecDepth 100000 in
set_option maxHeartbeats 2000000 in
theorem sound_any {w0 w : World} {col : Nat → Nat} {c k : Nat} {b : ZB} {q : List Int × List (Int × Int)} {L : List (List Nat)} (h : ZL w0 w col c b ⟨0, 4, 30⟩ k q L) :
    Calls Try.prog 65 #[.pointer (some ⟨b.Z, 0, none⟩)] w fun e w' => e = .returned (.bool true) ∧ Below w.heap.size w w' := by
  have H := Lib.hid (show ∀ W, Below w.heap.size w W → ZL w0 W (recol w.heap.size col c) c b ⟨0, 4, 30⟩ k q L from fun W hb => h.below hb c)
  have HX := Lib.hid h
  clear h
  go_enter Try.func65, Try.ntmps65
  go_wp2
  go_loopw [3, 4] (fun n x wr => ∃ i : Nat, i ≤ 4 ∧ x = .int .i64 i ∧ n = .int .i64 (lenU L i : Nat) ∧ Hid (Below w.heap.size w wr)) (fun _ x _ => 4 - (intOf x).toNat)
  case atStart => exact ⟨0, by omega, rfl, rfl, Below.refl _ _⟩
  case round =>
    obtain ⟨i, hi, rfl, rfl, hbel⟩ := hrel
    obtain ⟨wa, rfl⟩ : ∃ wo : World, wo = wr := ⟨_, rfl⟩
    by_cases hlt : i < 4
    · have i0 : (i : Int) < 4 := by omega
      have hle := lenU_le HX.out i
      have ql := zl_list (H.out _ hbel.out) (i : Int)
      rw [zget_nat] at ql
      have QL := Lib.hid ql
      clear ql
      obtain ⟨l, hl⟩ : ∃ l, L.getD i [] = l := ⟨_, rfl⟩
      have hll : l.length ≤ 30 := by rw [← hl]; exact HX.out.le i
      have HL := Lib.hid hl
      obtain ⟨n, hn⟩ : ∃ n, l.length = n := ⟨_, rfl⟩
      have HN := Lib.hid hn
      rw [hn] at hll
      rw [hl] at QL
      clear hl hn
      obtain ⟨S, hS⟩ : ∃ S, lenU L i = S := ⟨_, rfl⟩
      have HS := Lib.hid hS
      rw [hS] at hle ⊢
      clear hS
      go_upto_region 6 with (go_at_call 39; refine QL.out.mono ?_; rintro e w2 ⟨r, rfl, hr, hb⟩)
      obtain ⟨xa, xc, rfl⟩ := hr.any
      rw [ints_length, HN.out] at hr ⊢
      have HR := Lib.hid hr
      have HB2 := Lib.hid (fb_call hbel.out hb)
      clear hr hb QL
      have qn := zl_len (H.out _ HB2.out) (i : Int)
      rw [zget_nat, HL.out, HN.out] at qn
      have QN := Lib.hid qn
      clear qn
      go_wp2_with (go_at_call 42; refine QN.out.mono ?_; rintro e w3 ⟨rfl, hb⟩)
      have HB3 := Lib.hid (And.intro (fb_call HB2.out hb) (HR.out.below hb))
      clear hb QN HB2 HR
      go_loopw [3, 6] (fun m x wr => ∃ j : Nat, j ≤ n ∧ x = .int .i64 j ∧ m = .int .i64 ((S : Int) + j) ∧ Hid (Below w3.heap.size w3 wr)) (fun _ x _ => n - (intOf x).toNat)
      case atStart => exact ⟨0, Nat.zero_le _, rfl, by simp, Below.refl _ _⟩
      case round =>
        obtain ⟨j, hj, rfl, rfl, hb4⟩ := hrel
        by_cases hjn : j < n
        · obtain ⟨G, cG, hG, _⟩ := IRow.formc HB3.out.2 (by rw [ints_length, HN.out]; omega)
          injection hG with hG1 hG2 hG3
          subst hG1 hG3
          have hBw := fb_call HB3.out.1 hb4.out
          have hZ := H.out _ hBw
          have HBW := Lib.hid hBw
          have cl : ∀ W, Below w3.heap.size w3 W → W.cell? ⟨G, j, none⟩ = some (.int .i64 (l.getD j 0 : Nat)) := fun W hb => by
            rw [← ints_get]; exact IRow.cell (HB3.out.2.below hb) (by rw [ints_length, HN.out]; exact hjn)
          obtain ⟨s, hs⟩ : ∃ s, l.getD j 0 = s := ⟨_, rfl⟩
          rw [hs] at cl
          have c0 := cl _ hb4.out
          have qw := zl_where_yes hZ i j (by rw [HL.out, HN.out]; exact hjn)
          rw [HL.out, hs] at qw
          have QW := Lib.hid qw
          have HSV := Lib.hid (And.intro hs cl)
          have j0 : (0 : Int) ≤ j := by omega
          have j1 : (j : Int) < n := by omega
          clear hBw hZ hs qw cl hG2
          go_upto_region 12 with (go_at_call 38; refine QW.out.mono ?_; rintro e w5 ⟨rfl, hb⟩)
          have HB5 := Lib.hid (And.intro (fb_call HBW.out hb) (fb_call hb4.out hb))
          have qa := zl_at_in (H.out _ HB5.out.1) i j (by rw [HL.out, HN.out]; exact hjn)
          rw [HL.out, HSV.out.1] at qa
          have QA := Lib.hid qa
          clear qa hb QW c0 HBW
          go_upto_region 13 with (go_at_call 64; refine QA.out.mono ?_; rintro e w6 ⟨rfl, hb⟩)
          have c0 := HSV.out.2 _ (fb_call HB5.out.2 hb)
          have HB6 := Lib.hid (fb_call HB5.out.2 hb)
          clear hb QA
          go_wp2
          go_roundw
          case rel => exact ⟨j + 1, by omega, by go_num, by go_num, HB6.out⟩
          case measure => simp [intOf]; omega
        · obtain rfl : j = n := by omega
          have HB7 := Lib.hid (fb_call HB3.out.1 hb4.out)
          clear hjn
          go_wp2
          go_roundw
          case rel => exact ⟨i + 1, by omega, by go_num, by rw [lenU, HL.out, HN.out, HS.out]; go_num, HB7.out⟩
          case measure => simp [intOf]; omega
    · obtain rfl : i = 4 := by omega
      rw [show ((4 : Nat) : Int) = 4 from rfl]
      have hle := lenU_le HX.out 4
      have hca := cnt_all HX.out
      obtain ⟨S, hS⟩ : ∃ S, lenU L 4 = S := ⟨_, rfl⟩
      rw [hS] at hca hle ⊢
      have HCA := Lib.hid hca
      clear hca hS hlt
      go_wp2
      go_loopw [3, 12] (fun m x wr => ∃ s : Nat, s ≤ 30 ∧ x = .int .i64 s ∧ m = .int .i64 ((S : Int) - (cntU L s : Nat)) ∧ Hid (Below w.heap.size w wr)) (fun _ x _ => 30 - (intOf x).toNat)
      case atStart => exact ⟨0, by omega, rfl, by simp [cntU], hbel⟩
      case round =>
        obtain ⟨s, hs, rfl, rfl, hb4⟩ := hrel
        by_cases hsn : s < 30
        · have hcs := cntU_le L s
          have hsc : cntU L (s + 1) = cntU L s + (if inU L s then 1 else 0) := rfl
          obtain ⟨C, hC⟩ : ∃ C, cntU L s = C := ⟨_, rfl⟩
          rw [hC] at hcs hsc ⊢
          have HSC := Lib.hid hsc
          clear hsc hC
          have s0 : (s : Int) < 30 := by omega
          have hZ := H.out _ hb4.out
          by_cases hin : inU L s = true
          · obtain ⟨z, j, hj, hz⟩ := hZ.at ((inU_iff HX.out s).1 hin)
            have qw := zl_where_yes hZ z j hj
            rw [hz] at qw
            have QW := Lib.hid qw
            have HIN := Lib.hid hin
            clear qw hZ hj hz hin
            go_wp2_with (go_at_call 38; refine QW.out.mono ?_; rintro e w5 ⟨rfl, hb⟩)
            have HB5 := Lib.hid (fb_call hb4.out hb)
            clear hb QW
            go_roundw
            case rel => exact ⟨s + 1, by omega, by go_num, by rw [HSC.out, if_pos HIN.out]; go_num, HB5.out⟩
            case measure => simp [intOf]; omega
          · have qw := zl_where_no hZ (s : Int) (fun z t ht e => hin ((inU_iff HX.out s).2 ⟨z, by rw [show s = t by omega]; exact ht⟩))
            have QW := Lib.hid qw
            have HIN := Lib.hid hin
            clear qw hZ hin
            go_wp2_with (go_at_call 38; refine QW.out.mono ?_; rintro e w5 ⟨rfl, hb⟩)
            have HB5 := Lib.hid (fb_call hb4.out hb)
            clear hb QW
            go_roundw
            case rel => exact ⟨s + 1, by omega, by go_num, by rw [HSC.out, if_neg HIN.out]; go_num, HB5.out⟩
            case measure => simp [intOf]; omega
        · obtain rfl : s = 30 := by omega
          rw [HCA.out]
          have hz : (S : Int) - (S : Nat) = 0 := by omega
          rw [hz]
          clear hsn
          go_wp2
          go_ret
          exact ⟨rfl, hb4.out⟩
end Go.Proofs.Ytfkkkndigkchcaa
