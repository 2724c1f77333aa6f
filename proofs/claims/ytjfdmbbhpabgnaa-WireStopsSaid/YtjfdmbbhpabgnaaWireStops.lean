/- What a reader answers, and where it stops, is as the document says. No condition. -/
import Derived.Test.YtjfdmbbhpabgnaaWireWorks
import Derived.Test.YtjfdmbbhpabgnaaOpenT
import Derived.ChangeMaps5
namespace Go.Proofs.Ytjfdmbbhpabgnaa
open Go.ChangeMaps Go.ChangeShapes Go.WideShapes Go.ChangeAt Go.RowKit

/-- How both readers stand beside each other. -/
structure Sm2 (w0 w : World) (A R : Nat) (s : ByteArray) (at_ : Nat) (st : Bool) (t : ByteArray) : Prop where
  le : at_ ≤ s.size
  stp : st = true → at_ = s.size
  lst : t.data.toList = lft s at_
  ra : RdA w A s at_ st
  rr : RdR w R t st
  bel : Below w0.heap.size w0 w
def Same2 (w0 w : World) (A R : Nat) (s : ByteArray) : Prop := ∃ at_ st t, Sm2 w0 w A R s at_ st t
theorem lft_zero (t : ByteArray) : lft t 0 = t.data.toList := by simp [lft]
theorem ext_list (s : ByteArray) (a b : Nat) : (s.extract a b).data.toList = (s.data.toList.take b).drop a := by simp [List.drop_take]
theorem lft_add (s : ByteArray) (a m : Nat) : lft s (a + m) = (lft s a).drop m := by simp [lft]
theorem ext_eq {s t : ByteArray} (h : s.data.toList = t.data.toList) : s = t := by
  apply ByteArray.ext
  exact Array.toList_inj.1 h
theorem size_list (t : ByteArray) : t.size = t.data.toList.length := by rw [Array.length_toList]; rfl
theorem lft_all (s : ByteArray) : lft s s.size = [] := lft_nil s s.size (Nat.le_refl _)
section
variable {w0 w : World} {A R : Nat} {s : ByteArray}
theorem Sm2.size {at_ : Nat} {st : Bool} {t : ByteArray} (h : Sm2 w0 w A R s at_ st t) : t.size = s.size - at_ := by rw [size_list, h.lst, lft_len']
/-- Both answered, the document's after the program's. -/
def PairNum (w0 : World) (A R : Nat) (s : ByteArray) (e : Ending) (w1 : World) : Prop :=
  ∃ n : Nat, n < 2 ^ 64 ∧ e = .returned (.int .u64 n) ∧ Calls Try.prog 18 #[.pointer (some ⟨R, 0, none⟩)] w1 (NatRet fun n' w2 => n' = n ∧ Same2 w0 w2 A R s)
theorem pair_num (h : Same2 w0 w A R s) (hs : s.size ≤ 1000000) (hA : w0.heap.size ≤ A) (hR : w0.heap.size ≤ R) (hAR : A ≠ R) :
    Calls Try.prog 17 #[.pointer (some ⟨A, 0, none⟩)] w (PairNum w0 A R s) := by
  obtain ⟨at_, st, t, h⟩ := h
  have hts := h.size
  refine (num_any A s at_ st w h.ra hs h.le).mono fun e w1 hn => ?_
  have key : ∀ {w1 : World}, Moved w w1 (fun k => k = A) → RdR w1 R t st ∧ Below w0.heap.size w0 w1 := fun m => ⟨(m.block R h.rr.lt (fun e => hAR e.symm)).trans h.rr, bel_moved h.bel m hA⟩
  have hl0 : lft t 0 = lft s at_ := by rw [lft_zero, h.lst]
  rcases hn with ⟨h1, h2, h3, h4⟩ | ⟨n, m, h1, h2, h3, h4⟩
  · obtain ⟨k1, k2⟩ := key h4
    refine ⟨0, by decide, h2, (rnum_any R t st w1 k1 (by omega)).mono fun e w2 hr => ?_⟩
    rcases hr with ⟨q1, q2, q3, q4⟩ | ⟨n', m', q1, _⟩
    · exact ⟨0, by decide, q2, rfl, s.size, true, _, Nat.le_refl _, fun _ => rfl, by rw [lft_all], (q4.block A h3.lt hAR).trans h3, q3, bel_moved k2 q4 hR⟩
    · rw [hl0, h1] at q1; cases q1
  · obtain ⟨k1, k2⟩ := key h4
    refine ⟨n, (rd_some h1).1, h2, (rnum_any R t st w1 k1 (by omega)).mono fun e w2 hr => ?_⟩
    have hm := (rd_some h1).2.2.2
    rw [lft_len'] at hm
    have hm1 : 1 ≤ m := by rw [(rd_some h1).2.1, row_len]; omega
    rcases hr with ⟨q1, _⟩ | ⟨n', m', q1, q2, q3, q4⟩
    · rw [hl0, h1] at q1; cases q1
    · rw [hl0, h1] at q1
      simp only [Option.some.injEq, Prod.mk.injEq] at q1
      obtain ⟨rfl, rfl⟩ := q1
      refine ⟨n, (rd_some h1).1, q2, rfl, at_ + m, st, _, by have := h.le; omega, fun hst => by have := h.stp hst; have := h.le; omega, ?_, (q4.block A h3.lt hAR).trans h3, q3, bel_moved k2 q4 hR⟩
      rw [ext_list, lft_add, ← h.lst, List.take_of_length_le (by rw [Array.length_toList]; exact Nat.le_refl _)]
def PairInt (w0 : World) (A R : Nat) (s : ByteArray) (e : Ending) (w1 : World) : Prop :=
  ∃ n : Nat, n < 2 ^ 64 ∧ e = .returned (.int .i64 (unzz n)) ∧ Calls Try.prog 20 #[.pointer (some ⟨R, 0, none⟩)] w1 (IntRet fun n' w2 => n' = n ∧ Same2 w0 w2 A R s)
theorem pair_int (h : Same2 w0 w A R s) (hs : s.size ≤ 1000000) (hA : w0.heap.size ≤ A) (hR : w0.heap.size ≤ R) (hAR : A ≠ R) :
    Calls Try.prog 19 #[.pointer (some ⟨A, 0, none⟩)] w (PairInt w0 A R s) :=
  (int_any A w (fun n w1 => Calls Try.prog 18 #[.pointer (some ⟨R, 0, none⟩)] w1 (NatRet fun n' w2 => n' = n ∧ Same2 w0 w2 A R s)) ((pair_num h hs hA hR hAR).mono fun _ _ ⟨n, h1, h2, h3⟩ => ⟨n, h1, h2, h3⟩)).mono
    fun _ w1 ⟨n, h1, h2, h3⟩ => ⟨n, h1, h2, rint_any R w1 _ h3⟩
def PairText (w0 : World) (A R : Nat) (s : ByteArray) (e : Ending) (w1 : World) : Prop :=
  ∃ u : ByteArray, e = .returned (.string u) ∧ Calls Try.prog 22 #[.pointer (some ⟨R, 0, none⟩)] w1 (fun e w2 => e = .returned (.string u) ∧ Same2 w0 w2 A R s)
theorem pair_text (h : Same2 w0 w A R s) (hs : s.size ≤ 1000000) (hA : w0.heap.size ≤ A) (hR : w0.heap.size ≤ R) (hAR : A ≠ R) :
    Calls Try.prog 21 #[.pointer (some ⟨A, 0, none⟩)] w (PairText w0 A R s) := by
  obtain ⟨at_, st, t, h⟩ := h
  have hts := h.size
  have key : ∀ {w1 : World}, Moved w w1 (fun k => k = A) → RdR w1 R t st ∧ Below w0.heap.size w0 w1 := fun m => ⟨(m.block R h.rr.lt (fun e => hAR e.symm)).trans h.rr, bel_moved h.bel m hA⟩
  have hl0 : lft t 0 = lft s at_ := by rw [lft_zero, h.lst]
  rcases hr : rd (lft s at_) with _ | ⟨n, m⟩
  · refine (text_bad h.ra hs h.le hr).mono fun e w1 ⟨h1, h3, h4⟩ => ?_
    obtain ⟨k1, k2⟩ := key h4
    refine ⟨_, h1, (rtext_none R t st w1 k1 (by omega) (by rw [hl0]; exact hr)).mono fun e w2 ⟨q1, q3, q4⟩ => ⟨q1, s.size, true, _, Nat.le_refl _, fun _ => rfl, by rw [lft_all], (q4.block A h3.lt hAR).trans h3, q3, bel_moved k2 q4 hR⟩⟩
  · have hm := (rd_some hr).2.2.2
    rw [lft_len'] at hm
    have hm1 : 1 ≤ m := by rw [(rd_some hr).2.1, row_len]; omega
    have hst : st = false := by
      cases st
      · rfl
      · have := h.stp rfl; omega
    subst hst
    refine (text_some A s at_ n m w h.ra hs h.le hr).mono fun e w1 ht => ?_
    have hsub : (t.extract m t.size).size = s.size - (at_ + m) := by rw [ByteArray.size_extract]; omega
    have hlst : (t.extract m t.size).data.toList = lft s (at_ + m) := by
      rw [ext_list, lft_add, ← h.lst, List.take_of_length_le (by rw [Array.length_toList]; exact Nat.le_refl _)]
    rcases ht with ⟨h1, h2, h3, h4⟩ | ⟨n', m', h1, h2, h3, h4, h5⟩
    · obtain ⟨k1, k2⟩ := key h4
      have hbig : s.size < at_ + m + n := by
        rcases h1 with h1 | ⟨n', m', h1, h1'⟩
        · rw [hr] at h1; cases h1
        · have := hr.symm.trans h1
          simp only [Option.some.injEq, Prod.mk.injEq] at this
          omega
      refine ⟨_, h2, (rtext_some R t n m w1 k1 (by omega) (by rw [hl0]; exact hr)).mono fun e w2 hq => ?_⟩
      rcases hq with ⟨q0, q1, q3, q4⟩ | ⟨q0, _⟩
      · exact ⟨q1, s.size, true, _, Nat.le_refl _, fun _ => rfl, by rw [lft_all], (q4.block A h3.lt hAR).trans h3, q3, bel_moved k2 q4 hR⟩
      · omega
    · have := hr.symm.trans h1
      simp only [Option.some.injEq, Prod.mk.injEq] at this
      obtain ⟨rfl, rfl⟩ := this
      obtain ⟨k1, k2⟩ := key h5
      refine ⟨_, h3, (rtext_some R t n m w1 k1 (by omega) (by rw [hl0]; exact hr)).mono fun e w2 hq => ?_⟩
      rcases hq with ⟨q0, _⟩ | ⟨q0, q1, q3, q4⟩
      · omega
      · refine ⟨q1.trans ?_, at_ + m + n, false, _, h2, fun hf => (by cases hf), ?_, (q4.block A h4.lt hAR).trans h4, q3, bel_moved k2 q4 hR⟩
        · rw [show (t.extract m t.size).extract 0 n = s.extract (at_ + m) (at_ + m + n) from ext_eq (by rw [ext_list, hlst, ext_list, List.drop_zero, lft, List.drop_take, show at_ + m + n - (at_ + m) = n by omega])]
        · rw [ext_list, hlst, List.take_of_length_le (by rw [lft_len', hsub]; exact Nat.le_refl _), lft_add s (at_ + m) n]
theorem same_ok {at_ : Nat} {st : Bool} {t : ByteArray} (h : Sm2 w0 w A R s at_ st t) : Calls Try.prog 23 #[.pointer (some ⟨A, 0, none⟩)] w fun e w' => e = .returned (.bool (!st)) ∧ w = w' := ok_any A s at_ st w h.ra
theorem same_rok {at_ : Nat} {st : Bool} {t : ByteArray} (h : Sm2 w0 w A R s at_ st t) : Calls Try.prog 24 #[.pointer (some ⟨R, 0, none⟩)] w fun e w' => e = .returned (.bool (!st)) ∧ w = w' := rok_any R t st w h.rr
theorem same_end {at_ : Nat} {st : Bool} {t : ByteArray} (h : Sm2 w0 w A R s at_ st t) : Calls Try.prog 25 #[.pointer (some ⟨A, 0, none⟩)] w fun e w' => e = .returned (.bool (!st && at_ == s.size)) ∧ ∃ n, w' = w.drewN n := end_any A s at_ st w h.ra
theorem same_rend {at_ n : Nat} {st : Bool} {t : ByteArray} (h : Sm2 w0 w A R s at_ st t) : Calls Try.prog 26 #[.pointer (some ⟨R, 0, none⟩)] (w.drewN n) fun e w' => e = .returned (.bool (!st && at_ == s.size)) ∧ w.drewN n = w' :=
  (rend_any R t st (w.drewN n) h.rr).mono fun e w' ⟨h1, h2⟩ => ⟨by
    rw [h1, show (t.size == 0) = (at_ == s.size) from by rw [h.size, Bool.eq_iff_iff, beq_iff_eq, beq_iff_eq]; have := h.le; omega], h2⟩
end
theorem Sm2.drewN {w0 w : World} {A R : Nat} {s : ByteArray} {at_ : Nat} {st : Bool} {t : ByteArray} (h : Sm2 w0 w A R s at_ st t) (n : Nat) : Sm2 w0 (w.drewN n) A R s at_ st t := ⟨h.le, h.stp, h.lst, h.ra, h.rr, fb_drewN h.bel n⟩
set_option maxHeartbeats 2000000 in
set_option maxRecDepth 100000 in
theorem wireStops_walk (s0 : ByteArray) (a : Option Addr) (len cap : Nat) (F : Nat → Nat → Int) (w : World) (hs0 : s0.size ≤ 9223372036854775807) (_hlc : len ≤ cap) (_hm : cap ≤ 9223372036854775807) (hF : Rws w w.heap.size .u8 2 (.slice a len cap) len F) :
    Calls Try.prog 4 #[.string s0, .slice a len cap] w fun e w' => e = .returned (.bool true) ∧ Below w.heap.size w w' := by
  have HF := Lib.hid hF
  clear hF
  go_enter Try.func4, Try.ntmps4
  go_wp2_with fail
  obtain ⟨s, hs2⟩ : ∃ s, s0.extract 0 (min (s0.size : Int) 1500).toNat = s := ⟨_, rfl⟩
  have hl3 : s.size ≤ 1500 := by rw [← hs2, ByteArray.size_extract]; omega
  rw [hs2]
  clear hs2
  refine (newReader_any s _).mono ?_
  rintro e w1 ⟨rfl, hw⟩
  have H1 : Hid (RdA w1 w.heap.size s 0 false ∧ Below w.heap.size w w1 ∧ w1.heap.size = w.heap.size + 1) := by rw [← hw]; exact ⟨Arr.new w 57 _, fb_alloc (Below.refl _ _) _, by simp⟩
  clear hw
  go_wp2
  have H2 : Hid (Same2 w (w1.alloc (.cells #[.string s, .bool false] 33)) w.heap.size w1.heap.size s) :=
    ⟨0, false, s, Nat.zero_le _, fun h => (by cases h), (lft_zero s).symm, Arr.alloc H1.out.1 _, Arr.new w1 33 _, fb_alloc H1.out.2.1 _⟩
  have hR : w.heap.size ≤ w1.heap.size := H1.out.2.1.size
  have hAR : w.heap.size ≠ w1.heap.size := by have := H1.out.2.2; omega
  obtain ⟨R, hRe⟩ : ∃ R, w1.heap.size = R := ⟨_, rfl⟩
  rw [hRe] at H2 hR hAR ⊢
  clear H1 hRe
  go_loopw [7] (fun v wr => ∃ i : Nat, i ≤ 30 ∧ i ≤ len ∧ v = .int .i64 i ∧ Same2 w wr w.heap.size R s) (fun v _ => 30 - (intOf v).toNat)
  case atStart => exact ⟨0, by omega, by omega, rfl, H2.out⟩
  case round =>
    obtain ⟨i, hi, hil, rfl, hsm⟩ := hrel
    clear H2
    by_cases hlt : i < len ∧ i < 30
    · obtain ⟨hlt, hlt2⟩ := hlt
      have hlt2' : (i : Int) < 30 := by omega
      obtain ⟨a1, cp, e0, _, _, h0 | ⟨b, o, e1, e2, e3⟩⟩ := HF.out
      · omega
      · cases e0
        subst e1
        have w0 := (e3 i hlt 0 (by omega)).2
        have w1 := (e3 i hlt 1 (by omega)).2
        have n0 := (e3 i hlt 0 (by omega)).1
        have n1 := (e3 i hlt 1 (by omega)).1
        obtain ⟨x, hx⟩ : ∃ x, F i 0 = x := ⟨_, rfl⟩
        obtain ⟨y, hy⟩ : ∃ y, F i 1 = y := ⟨_, rfl⟩
        rw [hx] at n0 w0
        rw [hy] at n1 w1
        have by_ := wf_u8a w1
        obtain ⟨y, rfl⟩ := Int.eq_ofNat_of_zero_le by_.1
        have hcell : ∀ {wr : World}, Below w.heap.size w wr → wr.cell? ⟨b, o + i * 2, none⟩ = some (.int .u8 x) ∧ wr.cell? ⟨b, o + i * 2 + 1, none⟩ = some (.int .u8 (y : Int)) :=
          fun hb => ⟨(hb.cell (p := ⟨b, _, none⟩) e2).trans n0, (hb.cell (p := ⟨b, _, none⟩) e2).trans n1⟩
        have HC : Hid (∀ {wr : World}, Same2 w wr w.heap.size R s → wr.cell? ⟨b, o + i * 2, none⟩ = some (.int .u8 x) ∧ wr.cell? ⟨b, o + i * 2 + 1, none⟩ = some (.int .u8 (y : Int))) := fun h => by obtain ⟨_, _, _, h⟩ := h; exact hcell h.bel
        have hy255 : y ≤ 255 := by omega
        clear hx hy w0 w1 n0 n1 by_ hcell e3 e2 HF
        have HSM := Lib.hid hsm
        clear hsm
        go_wp2
        obtain ⟨wa, hwa⟩ : ∃ wo : World, wo = wr := ⟨_, rfl⟩
        rw [← hwa] at HSM ⊢
        clear hwa
        go_loopw [8] (fun v wr => ∃ k : Nat, k ≤ 1 + y % 5 ∧ v = .int .i64 k ∧ Same2 w wr w.heap.size R s) (fun v _ => 10 - (intOf v).toNat)
        case atStart => exact ⟨0, by omega, rfl, HSM.out⟩
        case round =>
          obtain ⟨k, hk, rfl, hsm⟩ := hrel
          have c0 := (HC.out hsm).1
          have c1 := (HC.out hsm).2
          have HS2 := Lib.hid hsm
          clear hsm HSM
          by_cases hkk : k < 1 + y % 5
          · by_cases hx0 : x = 0
            · subst hx0
              go_wp2_with fail
              refine (pair_num HS2.out (by omega) (Nat.le_refl _) hR hAR).mono ?_
              rintro e w1 ⟨n, hn, rfl, hr⟩
              have HRR := Lib.hid hr
              clear hr
              go_wp2_with fail
              refine HRR.out.mono ?_
              rintro e w3 ⟨n', hn', rfl, rfl, hs3⟩
              have HST := Lib.hid hs3
              clear hs3
              obtain ⟨at_, st, t, hS⟩ := HST.out
              have HS3 := Lib.hid hS
              clear hS
              go_wp2_with fail
              refine (same_ok HS3.out).mono ?_
              rintro e w4 ⟨rfl, rfl⟩
              go_wp2_with fail
              refine (same_rok HS3.out).mono ?_
              rintro e w4 ⟨rfl, rfl⟩
              go_wp2_with fail
              refine (same_end HS3.out).mono ?_
              rintro e w4 ⟨rfl, nq, rfl⟩
              go_wp2_with fail
              refine (same_rend HS3.out).mono ?_
              rintro e w4 ⟨rfl, rfl⟩
              go_wp2
              go_roundw
              case rel => exact ⟨k + 1, by omega, by go_num, at_, st, t, HS3.out.drewN nq⟩
              case measure => simp [intOf]; omega
            · have hx0' : (x == 0) = false := by simpa using hx0
              clear hx0
              by_cases hx1 : x = 1
              · subst hx1
                go_wp2_with fail
                refine (pair_int HS2.out (by omega) (Nat.le_refl _) hR hAR).mono ?_
                rintro e w1 ⟨n, hn, rfl, hr⟩
                have HRR := Lib.hid hr
                clear hr
                go_wp2_with fail
                refine HRR.out.mono ?_
                rintro e w3 ⟨n', hn', rfl, rfl, hs3⟩
                have HST := Lib.hid hs3
                clear hs3
                obtain ⟨at_, st, t, hS⟩ := HST.out
                have HS3 := Lib.hid hS
                clear hS
                go_wp2_with fail
                refine (same_ok HS3.out).mono ?_
                rintro e w4 ⟨rfl, rfl⟩
                go_wp2_with fail
                refine (same_rok HS3.out).mono ?_
                rintro e w4 ⟨rfl, rfl⟩
                go_wp2_with fail
                refine (same_end HS3.out).mono ?_
                rintro e w4 ⟨rfl, nq, rfl⟩
                go_wp2_with fail
                refine (same_rend HS3.out).mono ?_
                rintro e w4 ⟨rfl, rfl⟩
                go_wp2
                go_roundw
                case rel => exact ⟨k + 1, by omega, by go_num, at_, st, t, HS3.out.drewN nq⟩
                case measure => simp [intOf]; omega
              · have hx1' : (x == 1) = false := by simpa using hx1
                clear hx1
                go_wp2_with fail
                refine (pair_text HS2.out (by omega) (Nat.le_refl _) hR hAR).mono ?_
                rintro e w1 ⟨n, rfl, hr⟩
                have HRR := Lib.hid hr
                clear hr
                go_wp2_with fail
                refine HRR.out.mono ?_
                rintro e w3 ⟨rfl, hs3⟩
                have HST := Lib.hid hs3
                clear hs3
                obtain ⟨at_, st, t, hS⟩ := HST.out
                have HS3 := Lib.hid hS
                clear hS
                go_wp2_with fail
                refine (same_ok HS3.out).mono ?_
                rintro e w4 ⟨rfl, rfl⟩
                go_wp2_with fail
                refine (same_rok HS3.out).mono ?_
                rintro e w4 ⟨rfl, rfl⟩
                go_wp2_with fail
                refine (same_end HS3.out).mono ?_
                rintro e w4 ⟨rfl, nq, rfl⟩
                go_wp2_with fail
                refine (same_rend HS3.out).mono ?_
                rintro e w4 ⟨rfl, rfl⟩
                go_wp2
                go_roundw
                case rel => exact ⟨k + 1, by omega, by go_num, at_, st, t, HS3.out.drewN nq⟩
                case measure => simp [intOf]; omega
          · go_wp2
            go_roundw
            case rel => exact ⟨i + 1, by omega, by omega, by go_num, HS2.out⟩
            case measure => simp [intOf]; omega
    · have HSM := Lib.hid hsm
      clear hsm
      by_cases hlt : i < len
      all_goals
        go_wp2_with fail
        refine (works_any _).mono ?_
        rintro e w9 ⟨rfl, hb9⟩
        have HB9 := Lib.hid hb9
        clear hb9
        go_wp2
        go_ret
        exact ⟨rfl, fb_call (by obtain ⟨_, _, _, h⟩ := HSM.out; exact h.bel) HB9.out⟩

theorem wireStops_own : ownKnob Try.prog.godebug = none := by kernel_rfl
theorem wireStops_laidOut : laidOutB Try.prog = true := by kernel_rfl

set_option maxHeartbeats 1000000 in
set_option maxRecDepth 100000 in
theorem wireStops_lifted (os : Os) (started : os.Started) (H : Type) (enc : TypeId × Value → H) :
    ReturnsInHanded {} Try.checked os 4 .any (Rows.wireStopsSpec.pre6 enc Try.prog Try.f4 Rows.wireStopsRow.domain false) (Rows.wireStopsSpec.post enc Try.prog Try.f4 false true false false) := by
  refine returnsInHanded_of_change (C := Try.checked) wireStops_own started (by kernel_rfl) Try.func4
    (ChangeSpec.witness6 (enc := enc) (C := Try.checked) false ⟨#[], #[.string ByteArray.empty, .slice none 0 0], []⟩ 8 (by kernel_rfl) (by kernel_rfl) (by kernel_rfl) (by kernel_rfl)) ?_
  intro W base args ds gs before hval0 hW hcnd _
  have hval : ∀ (j : Nat) t v, Try.f4.params[j]? = some t → args[j]? = some v → Value.okWide Try.prog W .any base t v := hval0
  have hW' := hW
  obtain ⟨p, q, hA0, hV, rfl, hfz, hnd⟩ := hW
  have hA : DataW.TrodAll enc Try.prog W 0 (fun _ => true) true Try.f4.params.toList args.toList ds p := hA0
  rw [Try.params4] at hA hval
  obtain ⟨v0, vs0, d0, ds0, p0, q0, hargs, rfl, rfl, h0, r0⟩ := trodAll_cons hA
  obtain ⟨v1, vs1, d1, ds1, p1, q1, rfl, rfl, rfl, h1, r1⟩ := trodAll_cons r0
  obtain ⟨rfl, rfl, rfl⟩ := trodAll_nil r1
  obtain rfl : args = #[v0, v1] := by cases args; simp_all
  obtain ⟨rfl, rfl⟩ := trodVars_none hV
  have k0 := h0
  have lt0 : ∀ x ∈ p0, x.block < W.heap.size := by obtain ⟨m, hm⟩ := k0; exact DataW.trod_lt m _ _ _ hm
  obtain ⟨s, rfl, es1, es2, wss⟩ := open_string Try.underlying9 (hval 0 9 v0 rfl rfl) h0
  unfold maxLen at wss
  have k1 := h1
  have lt1 : ∀ x ∈ p1, x.block < W.heap.size := by obtain ⟨m, hm⟩ := k1; exact DataW.trod_lt m _ _ _ hm
  obtain ⟨aa, len, cap, F, rfl, hlc, hmx, hF⟩ := open_structs Try.underlying28 Try.underlying35 (by kernel_rfl) (by kernel_rfl) (by intro j f h; match j, h with | 0, h => (cases h; exact Try.underlying5) | 1, h => (cases h; exact Try.underlying5)) (by decide) (hval 1 28 v1 rfl rfl) h1
  unfold maxLen at hmx
  clear hA0 hval0
  refine (wireStops_walk s aa len cap F W (by omega) hlc (by omega) hF).mono fun e W' ⟨he, bel⟩ => ?_
  subst he
  exact ⟨_, rfl, _, _, _, [], _, [], hW', trodAll_mk1 (shut_bool Try.underlying4 _), (trodAll_cons_mk (Below.trod wireStops_laidOut (by kernel_rfl) (of_decide_eq_true (by kernel_rfl)) k0 bel lt0) (trodAll_cons_mk (Below.trod wireStops_laidOut (by kernel_rfl) (of_decide_eq_true (by kernel_rfl)) k1 bel lt1) trodAll_mk0)), rfl, bel.frame _, fun h => by cases h⟩

theorem wireStops_over : Rows.wireStopsRow.holds Try.pinned (OpenSpec.ofChange Rows.wireStopsSpec) :=
  OpenClaim.holds_of_wide 4 Try.f4 rfl rfl rfl rfl rfl rfl rfl ⟨rfl, rfl, rfl, rfl, rfl⟩ rfl rfl rfl rfl rfl (by kernel_rfl) Try.func4 (by kernel_rfl)
    (of_decide_eq_true (by kernel_rfl)) (by unfold Func.isWrapper; first | (rw [if_pos (by decide +kernel)]; kernel_rfl) | (rw [if_neg (by decide +kernel)]; exact ⟨rfl, rfl⟩))
    (fun os started H enc _ => wireStops_lifted os started H enc)

/-- The statement. -/
theorem wireStops_holds : Rows.WireStopsSaid := wireStops_over
#print axioms wireStops_holds
end Go.Proofs.Ytjfdmbbhpabgnaa
