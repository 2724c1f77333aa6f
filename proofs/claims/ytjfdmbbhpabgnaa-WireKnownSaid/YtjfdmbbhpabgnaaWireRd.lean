/- Walks of wire.PutInt, PutText and of wire's reader. No condition. -/
import Derived.Test.YtjfdmbbhpabgnaaWirePut
import Derived.Test.YtjfdmbbhpabgnaaMoved
import Derived.Laws.BitsAllLaws
import Derived.Laws.BitsLemmas
namespace Go.Proofs.Ytjfdmbbhpabgnaa
open Go.RowKit

theorem xor_ones (a : Nat) (ha : a < 18446744073709551616) : a ^^^ 18446744073709551615 = 18446744073709551615 - a := by
  have h := BitVec.toNat_not (x := BitVec.ofNat 64 a)
  have h2 : BitVec.ofNat 64 a ^^^ BitVec.allOnes 64 = ~~~ (BitVec.ofNat 64 a) := BitVec.xor_allOnes
  rw [← h2, BitVec.toNat_xor] at h
  simp only [BitVec.toNat_ofNat, BitVec.toNat_allOnes] at h
  rw [Nat.mod_eq_of_lt (by simpa using ha)] at h
  exact h
theorem zz_bits (i : Int) (h1 : -9223372036854775808 ≤ i) (h2 : i ≤ 9223372036854775807) : bits BinOp.xor IntKind.u64 (IntKind.u64.wrap (IntKind.u64.wrap i * 2)) (IntKind.u64.wrap (i / 9223372036854775808)) = (zz i : Int) := by
  have hw : ∀ n, IntKind.u64.wrap n = n % 18446744073709551616 := fun n => by simp [IntKind.wrap, IntKind.bits, IntKind.signed]
  rw [hw, hw, hw]
  by_cases h : i < 0
  · have e1 : (i % 18446744073709551616 * 2) % 18446744073709551616 = (((2 * i + 18446744073709551616).toNat : Nat) : Int) := by omega
    have e2 : (i / 9223372036854775808) % 18446744073709551616 = ((18446744073709551615 : Nat) : Int) := by omega
    rw [e1, e2, u64_xor_nat _ _ (by omega) (by omega), xor_ones _ (by omega)]
    unfold zz; rw [if_pos h]; omega
  · have e1 : (i % 18446744073709551616 * 2) % 18446744073709551616 = (((2 * i).toNat : Nat) : Int) := by omega
    have e2 : (i / 9223372036854775808) % 18446744073709551616 = ((0 : Nat) : Int) := by omega
    rw [e1, e2, u64_xor_nat _ _ (by omega) (by omega), Nat.xor_zero]
    unfold zz; rw [if_neg h]
theorem putInt_any (s : ByteArray) (i : Int) (w : World) (hs : s.size ≤ 1000000) (h1 : -9223372036854775808 ≤ i) (h2 : i ≤ 9223372036854775807) :
    Calls Try.prog 11 #[.string s, .int .i64 i] w fun e w' => e = .returned (.string (s ++ str (row (zz i)))) ∧ Below w.heap.size w w' := by
  have hz := zz_lt i h1 h2
  have hb := Lib.hid (zz_bits i h1 h2)
  go_enter Try.func11, Try.ntmps11
  go_wp2_with fail
  rw [hb.out]
  refine (put_any s (zz i) _ hs hz).mono ?_
  rintro e w1 ⟨rfl, hb1⟩
  go_wp2
  go_ret
  exact ⟨rfl, hb1⟩
theorem putText_any (s t : ByteArray) (w : World) (hs : s.size ≤ 1000000) (ht : t.size ≤ 1000000) :
    Calls Try.prog 13 #[.string s, .string t] w fun e w' => e = .returned (.string (s ++ str (row t.size) ++ t)) ∧ Below w.heap.size w w' := by
  have h8 := srt_le t.size
  go_enter Try.func13, Try.ntmps13
  go_wp2_with (go_at_call 9; refine (put_any s t.size _ hs (by omega)).mono ?_; rintro e w1 ⟨rfl, hb1⟩)
  go_ret
  exact ⟨rfl, hb1⟩
/-- A reader in block A. -/
def RdA (w : World) (A : Nat) (s : ByteArray) (at_ : Nat) (st : Bool) : Prop := Arr w A 57 [.string s, .int .i64 at_, .bool st]
theorem RdA.drewN {w : World} {A : Nat} {s : ByteArray} {at_ : Nat} {st : Bool} (h : RdA w A s at_ st) (n : Nat) : RdA (w.drewN n) A s at_ st := h
theorem newReader_any (s : ByteArray) (w : World) : Calls Try.prog 16 #[.string s] w fun e w' => e = .returned (.pointer (some ⟨w.heap.size, 0, none⟩)) ∧ w.alloc (.cells #[.string s, .int .i64 0, .bool false] 57) = w' := by
  go_enter Try.func16, Try.ntmps16
  go_wp2
  go_ret
  exact ⟨rfl, rfl⟩
theorem ok_any (A : Nat) (s : ByteArray) (at_ : Nat) (st : Bool) (w : World) (h : RdA w A s at_ st) : Calls Try.prog 23 #[.pointer (some ⟨A, 0, none⟩)] w fun e w' => e = .returned (.bool (!st)) ∧ w = w' := by
  have c2 : w.cell? ⟨A, 2, none⟩ = some (.bool st) := h.cell 2
  have f2 := h.frozen 2
  clear h
  go_enter Try.func23, Try.ntmps23
  go_wp2
  go_ret
  exact ⟨rfl, rfl⟩
theorem ok_none (w : World) : Calls Try.prog 23 #[.pointer none] w fun e w' => e = .returned (.bool false) ∧ w = w' := by
  go_enter Try.func23, Try.ntmps23
  go_wp2
  go_ret
  exact ⟨rfl, rfl⟩
theorem ok_yes (A : Nat) (s : ByteArray) (at_ : Nat) (w : World) (h : RdA w A s at_ false) : Calls Try.prog 23 #[.pointer (some ⟨A, 0, none⟩)] w fun e w' => e = .returned (.bool true) ∧ w' = w := (ok_any A s at_ false w h).mono fun _ _ ⟨he, hw⟩ => ⟨he, hw.symm⟩
theorem ok_no (A : Nat) (s : ByteArray) (at_ : Nat) (w : World) (h : RdA w A s at_ true) : Calls Try.prog 23 #[.pointer (some ⟨A, 0, none⟩)] w fun e w' => e = .returned (.bool false) ∧ w' = w := (ok_any A s at_ true w h).mono fun _ _ ⟨he, hw⟩ => ⟨he, hw.symm⟩
theorem end_any (A : Nat) (s : ByteArray) (at_ : Nat) (st : Bool) (w : World) (h : RdA w A s at_ st) : Calls Try.prog 25 #[.pointer (some ⟨A, 0, none⟩)] w fun e w' => e = .returned (.bool (!st && at_ == s.size)) ∧ ∃ n, w' = w.drewN n := by
  have c0 : w.cell? ⟨A, 0, none⟩ = some (.string s) := h.cell 0
  have c1 : w.cell? ⟨A, 1, none⟩ = some (.int .i64 at_) := h.cell 1
  have f0 := h.frozen 0
  have f1 := h.frozen 1
  have H := Lib.hid h
  clear h
  cases st
  · go_enter Try.func25, Try.ntmps25
    go_wp2
    go_quiet ((go_at_call 23; exact Calls.quiet_of_same (ok_yes A s at_ _ H.out)))
    all_goals
      go_wp2
      go_ret
      exact ⟨ret_b (by rw [Bool.eq_iff_iff]; simp only [Bool.not_false, Bool.true_and, beq_iff_eq]; omega), _, rfl⟩
  · go_enter Try.func25, Try.ntmps25
    go_wp2
    go_quiet ((go_at_call 23; exact Calls.quiet_of_same (ok_no A s at_ _ H.out)))
    all_goals
      go_wp2
      go_ret
      exact ⟨ret_b (by simp), _, rfl⟩
theorem stop_any (A : Nat) (s : ByteArray) (at_ : Nat) (st : Bool) (w : World) (h : RdA w A s at_ st) : Calls Try.prog 32 #[.pointer (some ⟨A, 0, none⟩)] w fun e w' => e = .returned (.tuple #[]) ∧ RdA w' A s s.size true ∧ Moved w w' (fun k => k = A) := by
  have c0 : w.cell? ⟨A, 0, none⟩ = some (.string s) := h.cell 0
  have c1 : w.cell? ⟨A, 1, none⟩ = some (.int .i64 at_) := h.cell 1
  have c2 : w.cell? ⟨A, 2, none⟩ = some (.bool st) := h.cell 2
  have f0 := h.frozen 0
  have f1 := h.frozen 1
  have f2 := h.frozen 2
  have H := Lib.hid h
  clear h
  go_enter Try.func32, Try.ntmps32
  go_wp2
  go_end0
  refine ⟨rfl, (H.out.set 1 _).set 2 _, (Moved.of_set _ _ _ (S := fun k => k = A) rfl).trans (Moved.of_set _ _ _ (S := fun k => k = A) rfl) (fun _ hk => .inl hk)⟩

/-- The bytes that stand from its place on. -/
def lft (s : ByteArray) (at_ : Nat) : List UInt8 := s.data.toList.drop at_
theorem num_stop (A : Nat) (s : ByteArray) (at_ : Nat) (st : Bool) (w : World) (h : RdA w A s at_ st) (_hs : s.size ≤ 1000000) (ha : s.size ≤ at_) (_hb : at_ ≤ 1000000) :
    Calls Try.prog 17 #[.pointer (some ⟨A, 0, none⟩)] w fun e w' => e = .returned (.int .u64 0) ∧ RdA w' A s s.size true ∧ Moved w w' (fun k => k = A) := by
  have c0 : w.cell? ⟨A, 0, none⟩ = some (.string s) := h.cell 0
  have c1 : w.cell? ⟨A, 1, none⟩ = some (.int .i64 at_) := h.cell 1
  have f0 := h.frozen 0
  have f1 := h.frozen 1
  have H := Lib.hid h
  clear h
  go_enter Try.func17, Try.ntmps17
  go_wp2
  go_step3
  go_wp2
  go_step3
  go_wp2
  refine wp_loop_rounds 1 ?_
  rw [rounds_succ]
  go_wp2
  go_quiet (fail)
  go_wp2_with (go_at_call 32; refine (stop_any A s at_ st _ (H.out.drewN _)).mono ?_; rintro e w1 ⟨rfl, h1, m1⟩; have H1 := Lib.hid (And.intro h1 m1); clear h1 m1)
  try rw [Exit.noGoto_ret]
  go_ret
  exact ⟨rfl, H1.out.1, (Moved.of_drewN _ _ _).trans H1.out.2 (fun _ hk => .inl hk)⟩

theorem lead_bits (f : Nat) (hf : f ≤ 255) : bits BinOp.xor IntKind.u8 IntKind.u8.max (f : Int) = ((255 - f : Nat) : Int) ∧ (8 - (Lib.bitLen (255 - f) : Int)) = (lead f : Int) ∧ bits BinOp.and IntKind.u8 (f : Int) (255 / 2 ^ lead f) = ((f - ones (lead f) : Nat) : Int) := by
  have hd : ∀ f : Fin 256, bits BinOp.xor IntKind.u8 IntKind.u8.max (f.val : Int) = ((255 - f.val : Nat) : Int) ∧ (8 - (Lib.bitLen (255 - f.val) : Int)) = (lead f.val : Int) ∧ bits BinOp.and IntKind.u8 (f.val : Int) (255 / 2 ^ lead f.val) = ((f.val - ones (lead f.val) : Nat) : Int) := by decide +kernel
  exact hd ⟨f, by omega⟩
theorem lead8f (f : Nat) (w : World) (hf : f ≤ 255) : Calls Try.prog 31 #[.int .u8 ((255 - f : Nat) : Int)] w fun e w' => e = .returned (.int .i64 (lead f)) ∧ w = w' :=
  (lead8_any _ w (by omega) (by omega)).mono fun e w' ⟨he, hw⟩ => ⟨by rw [he, Int.toNat_natCast, (lead_bits f hf).2.1], hw⟩
/-- As many bytes as the first one says are not there. -/
theorem num_short (A : Nat) (s : ByteArray) (at_ k : Nat) (st : Bool) (w : World) (h : RdA w A s at_ st) (_hs : s.size ≤ 1000000) (ha : at_ < s.size) (hke : lead (s[at_]).toNat = k) (hk : s.size ≤ at_ + k) :
    Calls Try.prog 17 #[.pointer (some ⟨A, 0, none⟩)] w fun e w' => e = .returned (.int .u64 0) ∧ RdA w' A s s.size true ∧ Moved w w' (fun k => k = A) := by
  have c0 : w.cell? ⟨A, 0, none⟩ = some (.string s) := h.cell 0
  have c1 : w.cell? ⟨A, 1, none⟩ = some (.int .i64 at_) := h.cell 1
  have f0 := h.frozen 0
  have f1 := h.frozen 1
  have H := Lib.hid h
  clear h
  have hf := s[at_].toNat_lt
  have hlb := (lead_bits s[at_].toNat (by simp at hf; omega)).1
  have hL := lead8f s[at_].toNat
  rw [hke] at hL
  have HL := Lib.hid hL
  clear hL
  have hsg : IntKind.u8.signed = false := rfl
  have h8 : k ≤ 8 := hke ▸ lead_le _
  clear hke
  go_enter Try.func17, Try.ntmps17
  go_wp2
  go_step3
  go_wp2
  go_step3
  go_wp2
  refine wp_loop_rounds 1 ?_
  rw [rounds_succ]
  go_wp2
  go_quiet (fail)
  go_wp2
  go_quiet (fail)
  go_wp2_with (go_at_call 31; refine (HL.out _ (by simp at hf; omega)).mono ?_; rintro e w1 ⟨rfl, rfl⟩)
  have q1 : IntKind.i64.wrap ((s.size : Int) - at_) = (s.size : Int) - at_ := IntWalk.i64_in _ (by omega)
  go_quiet (fail)
  clear q1
  have hlk : (s.size : Int) - at_ ≤ k := by omega
  go_wp2_with (go_at_call 32; refine (stop_any A s at_ st _ (H.out.drewN _)).mono ?_; rintro e w1 ⟨rfl, h1, m1⟩; have H1 := Lib.hid (And.intro h1 m1); clear h1 m1)
  try rw [Exit.noGoto_ret]
  go_ret
  exact ⟨rfl, H1.out.1, (Moved.of_drewN _ _ _).trans H1.out.2 (fun _ hk => .inl hk)⟩
theorem num_take (n : Nat) (r : List UInt8) (j : Nat) (h : j < r.length) : num n (r.take (j + 1)) = num n (r.take j) * 256 + r[j].toNat := by
  rw [List.take_succ_eq_append_getElem h, num_snoc]
theorem or_byte (m b : Nat) (hm : m < 2 ^ 56) (hb : b < 256) : bits BinOp.or IntKind.u64 ((m : Int) * 256) (b : Int) = ((m * 256 + b : Nat) : Int) := by
  have e : (m : Int) * 256 = ((m * 256 : Nat) : Int) := Int.natCast_mul m 256
  have h1 : m * 256 < 18446744073709551616 := by omega
  have h2 : b < 18446744073709551616 := by omega
  rw [e, u64_or_nat (m * 256) b h1 h2, nat_join 8 (m * 256) b (by omega) (by omega)]
/-- What Num leaves, where as many bytes are there as the first one says. -/
def NumPost (A : Nat) (s : ByteArray) (at_ k : Nat) (st : Bool) (w : World) (N : Nat) (e : Ending) (w' : World) : Prop :=
  ((0 < k ∧ N < 2 ^ (7 * k)) ∧ e = .returned (.int .u64 0) ∧ RdA w' A s s.size true ∧ Moved w w' (fun k => k = A)) ∨
    (¬ (0 < k ∧ N < 2 ^ (7 * k)) ∧ e = .returned (.int .u64 N) ∧ RdA w' A s (at_ + (1 + k)) st ∧ Moved w w' (fun k => k = A))
set_option maxHeartbeats 1000000 in
theorem num_long (A : Nat) (s : ByteArray) (at_ k : Nat) (st : Bool) (w : World) (h : RdA w A s at_ st) (hs : s.size ≤ 1000000) (ha : at_ < s.size) (hke : lead (s[at_]).toNat = k) (hk : at_ + k < s.size) :
    Calls Try.prog 17 #[.pointer (some ⟨A, 0, none⟩)] w (NumPost A s at_ k st w (num ((s[at_]).toNat - ones k) ((s.data.toList.drop (at_ + 1)).take k))) := by
  have c0 : w.cell? ⟨A, 0, none⟩ = some (.string s) := h.cell 0
  have c1 : w.cell? ⟨A, 1, none⟩ = some (.int .i64 at_) := h.cell 1
  have f0 := h.frozen 0
  have f1 := h.frozen 1
  have H := Lib.hid h
  clear h
  have hf := s[at_].toNat_lt
  have hlb := (lead_bits s[at_].toNat (by simp at hf; omega)).1
  have hla := (lead_bits s[at_].toNat (by simp at hf; omega)).2.2
  rw [hke] at hla
  have hL := lead8f s[at_].toNat
  rw [hke] at hL
  have HL := Lib.hid hL
  clear hL
  have hsg : IntKind.u8.signed = false := rfl
  have h8 : k ≤ 8 := hke ▸ lead_le _
  have HK := Lib.hid hke
  clear hke
  obtain ⟨n0, hn0⟩ : ∃ n0, s[at_].toNat - ones k = n0 := ⟨_, rfl⟩
  obtain ⟨r, hr⟩ : ∃ r, s.data.toList.drop (at_ + 1) = r := ⟨_, rfl⟩
  have hrl : r.length = s.size - (at_ + 1) := by rw [← hr, List.length_drop, Array.length_toList]; rfl
  have hn0l : n0 < 2 ^ (lim k - 8 * k) := by
    have := (lead_bound s[at_].toNat (by simp at hf; omega)).2
    rw [HK.out, hn0] at this
    exact this
  rw [hn0] at hla ⊢
  rw [hr]
  have hn0b : n0 ≤ 255 := by simp at hf; omega
  have HR := Lib.hid (And.intro hr (And.intro hrl hn0l))
  clear hn0 hr hrl hn0l
  go_enter Try.func17, Try.ntmps17
  go_wp2
  go_step3
  go_wp2
  go_step3
  go_wp2
  refine wp_loop_rounds 1 ?_
  rw [rounds_succ]
  go_wp2
  go_quiet (fail)
  go_wp2
  go_quiet (fail)
  go_wp2_with (go_at_call 31; refine (HL.out _ (by simp at hf; omega)).mono ?_; rintro e w1 ⟨rfl, rfl⟩)
  have q1 : IntKind.i64.wrap ((s.size : Int) - at_) = (s.size : Int) - at_ := IntWalk.i64_in _ (by omega)
  go_quiet (fail)
  clear q1
  have hlk : ¬ ((s.size : Int) - at_ ≤ k) := by omega
  clear hlb
  go_wp2
  clear hla
  go_loopw [6, 2] (fun v x wr => ∃ j m : Nat, j ≤ k ∧ v = .int .i64 ((j + 1 : Nat) : Int) ∧ x = .int .u64 ((num n0 (r.take j) : Nat) : Int) ∧ wr = w.drewN m) (fun v _ _ => 9 - (intOf v).toNat)
  case atStart => exact ⟨0, _, by omega, rfl, by simp [num], rfl⟩
  case round =>
    obtain ⟨j, md, hj, rfl, rfl, rfl⟩ := hrel
    have hml := num_lt _ n0 (r.take j) HR.out.2.2
    have hpw : 2 ^ (lim k - 8 * k) * 256 ^ (k - 1) * 256 ≤ 2 ^ 64 ∨ k = 0 := by
      rcases Nat.eq_zero_or_pos k with h0 | h0
      · exact .inr h0
      · refine .inl ?_
        rw [Nat.mul_assoc, ← Nat.pow_succ, show (k - 1).succ = k by omega, show (256 : Nat) = 2 ^ 8 from rfl, ← Nat.pow_mul, ← Nat.pow_add]
        exact Nat.pow_le_pow_right (by omega) (by unfold lim; split <;> omega)
    by_cases hlt : j < k
    · have hjr : j < r.length := by rw [HR.out.2.1]; omega
      have hm64 : num n0 (r.take j) < 2 ^ 56 := by
        have h1 : (r.take j).length ≤ k - 1 := by rw [List.length_take]; omega
        have h2 := Nat.mul_le_mul_left (2 ^ (lim k - 8 * k)) (Nat.pow_le_pow_right (n := 256) (by omega) h1)
        omega
      have hnt := num_take n0 r j hjr
      have hrj : s[at_ + (j + 1)]'(by omega) = r[j] := by
        have := HR.out.1
        subst this
        simp [Nat.add_comm, Nat.add_left_comm]
        rfl
      obtain ⟨m, hm⟩ : ∃ m, num n0 (r.take j) = m := ⟨_, rfl⟩
      rw [hm] at hm64 hnt ⊢
      have HN := Lib.hid (And.intro hnt hrj)
      clear hml hpw hm hnt hrj
      go_wp2
      have q1 : IntKind.u64.wrap ((m : Int) * 256) = (m : Int) * 256 := IntWalk.u64_in _ (by omega)
      have q2 : IntKind.i64.wrap ((at_ : Int) + ((j : Int) + 1)) = (at_ : Int) + ((j : Int) + 1) := IntWalk.i64_in _ (by omega)
      have q3 : (0 : Int) ≤ (at_ : Int) + ((j : Int) + 1) := by omega
      have q4 : (at_ : Int) + ((j : Int) + 1) < s.size := by omega
      have hv : bits BinOp.or IntKind.u64 ((m : Int) * 256) (IntKind.u64.wrap ((s[at_ + (j + 1)]'(by omega)).toNat : Int)) = ((num n0 (r.take (j + 1)) : Nat) : Int) := by
        have hb := (s[at_ + (j + 1)]'(by omega)).toNat_lt
        rw [show IntKind.u64.wrap ((s[at_ + (j + 1)]'(by omega)).toNat : Int) = ((s[at_ + (j + 1)]'(by omega)).toNat : Int) from IntWalk.u64_in _ (by simp at hb; omega), or_byte m _ hm64 (by simpa using hb), HN.out.1, HN.out.2]
      have HV := Lib.hid hv
      clear hv
      go_quiet (fail)
      rw [HV.out]
      clear HV q1 q2
      go_wp2
      go_roundw
      case rel => exact ⟨j + 1, md + nq, by omega, by go_num, rfl, rfl⟩
      case measure => simp [intOf]; omega
    · obtain rfl : j = k := by omega
      obtain ⟨N, hN⟩ : ∃ N, num n0 (r.take j) = N := ⟨_, rfl⟩
      have hN64 : N < 2 ^ 64 := by
        rw [List.length_take, HR.out.2.1, Nat.min_eq_left (by omega), show (256 : Nat) = 2 ^ 8 from rfl, ← Nat.pow_mul, ← Nat.pow_add, Nat.sub_add_cancel (lim_ge j h8), hN] at hml
        exact Nat.lt_of_lt_of_le hml (Nat.pow_le_pow_right (by omega) (by unfold lim; split <;> omega))
      rw [hN]
      clear hlt hj hml hpw
      have HNN := Lib.hid hN
      clear hN
      by_cases hz : 0 < j ∧ N < 2 ^ (7 * j)
      · have HZ := Lib.hid hz
        obtain ⟨hz1, hz2⟩ := hz
        have e := shr_lt N (7 * j)
        rw [decide_eq_true hz2] at e
        have q1 : ((j : Int) > 0) = True := by simp; omega
        go_wp2_with (go_at_call 32; refine (stop_any A s at_ st _ (H.out.drewN _)).mono ?_; rintro e w1 ⟨rfl, h1, m1⟩; have H1 := Lib.hid (And.intro h1 m1); clear h1 m1)
        try rw [Exit.noGoto_ret]
        go_ret
        exact .inl ⟨by rw [HNN.out]; exact HZ.out, rfl, H1.out.1, (Moved.of_drewN _ _ _).trans H1.out.2 (fun _ hk => .inl hk)⟩
      · have hz' : (0 : Int) < (j : Int) → ((N : Int) / 2 ^ (7 * j) == 0) = false := fun h0 => by rw [shr_lt]; simp; omega
        have HZ := Lib.hid hz
        clear hz
        have c2 := H.out.cell 2
        have f2 := H.out.frozen 2
        by_cases h0 : 0 < j
        · have hz'' := hz' (by omega)
          clear hz'
          go_wp2
          try rw [Exit.noGoto_ret]
          go_ret
          exact .inr ⟨by rw [HNN.out]; exact HZ.out, by rw [HNN.out]; rfl, RdA.drewN (show RdA (w.setCell ⟨A, 1, none⟩ (.int .i64 (at_ + (1 + j)))) A s (at_ + (1 + j)) st by have := H.out.set 1 (.int .i64 (at_ + (1 + j))); simpa [RdA] using this) _, (Moved.of_set w _ _ (S := fun k => k = A) rfl).trans (Moved.of_drewN _ _ _) (fun _ hk => .inl hk)⟩
        · clear hz'
          go_wp2
          try rw [Exit.noGoto_ret]
          go_ret
          exact .inr ⟨by rw [HNN.out]; exact HZ.out, by rw [HNN.out]; rfl, RdA.drewN (show RdA (w.setCell ⟨A, 1, none⟩ (.int .i64 (at_ + (1 + j)))) A s (at_ + (1 + j)) st by have := H.out.set 1 (.int .i64 (at_ + (1 + j))); simpa [RdA] using this) _, (Moved.of_set w _ _ (S := fun k => k = A) rfl).trans (Moved.of_drewN _ _ _) (fun _ hk => .inl hk)⟩
end Go.Proofs.Ytjfdmbbhpabgnaa
