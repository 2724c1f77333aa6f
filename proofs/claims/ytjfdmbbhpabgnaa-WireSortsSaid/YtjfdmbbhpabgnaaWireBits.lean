/- Walks of the library's Len64, Len8, LeadingZeros8, and of small functions of this seat. No condition. -/
import Derived.Test.YtjfdmbbhpabgnaaLat
import Derived.Test.YtjfdmbbhpabgnaaWirePlain
import Derived.Lib.BitFns
import Derived.Lib.Small
import Derived.Lib.Strings
import Derived.Lib.Slices
import Derived.Lib.Walk
namespace Go.Proofs.Ytjfdmbbhpabgnaa
open Go.RowKit

set_option maxRecDepth 100000 in
/-- The library's table, as it stands in the program. -/
@[local go_sem ↓ high] theorem fold_tab : (⟨(([0, 1, 2, 2, 3, 3, 3, 3, 4, 4, 4, 4, 4, 4, 4, 4, 5, 5, 5, 5, 5, 5, 5, 5, 5, 5, 5, 5, 5, 5, 5, 5, 6, 6, 6, 6, 6, 6, 6, 6, 6, 6, 6, 6, 6, 6, 6, 6, 6, 6, 6, 6, 6, 6, 6, 6, 6, 6, 6, 6, 6, 6, 6, 6].append [7, 7, 7, 7, 7, 7, 7, 7, 7, 7, 7, 7, 7, 7, 7, 7, 7, 7, 7, 7, 7, 7, 7, 7, 7, 7, 7, 7, 7, 7, 7, 7, 7, 7, 7, 7, 7, 7, 7, 7, 7, 7, 7, 7, 7, 7, 7, 7, 7, 7, 7, 7, 7, 7, 7, 7, 7, 7, 7, 7, 7, 7, 7, 7]).append ([8, 8, 8, 8, 8, 8, 8, 8, 8, 8, 8, 8, 8, 8, 8, 8, 8, 8, 8, 8, 8, 8, 8, 8, 8, 8, 8, 8, 8, 8, 8, 8, 8, 8, 8, 8, 8, 8, 8, 8, 8, 8, 8, 8, 8, 8, 8, 8, 8, 8, 8, 8, 8, 8, 8, 8, 8, 8, 8, 8, 8, 8, 8, 8].append [8, 8, 8, 8, 8, 8, 8, 8, 8, 8, 8, 8, 8, 8, 8, 8, 8, 8, 8, 8, 8, 8, 8, 8, 8, 8, 8, 8, 8, 8, 8, 8, 8, 8, 8, 8, 8, 8, 8, 8, 8, 8, 8, 8, 8, 8, 8, 8, 8, 8, 8, 8, 8, 8, 8, 8, 8, 8, 8, 8, 8, 8, 8, 8])).toArray⟩ : ByteArray) = Lib.len8tab := rfl

theorem len8_any (x : Int) (w : World) (h0 : 0 ≤ x) (h1 : x ≤ 255) : Calls Try.prog 35 #[.int .u8 x] w fun e w' => e = .returned (.int .i64 (Lib.bitLen x.toNat)) ∧ w = w' := by
  go_enter Try.func35, Try.ntmps35
  go_wp2
  go_ret
  exact ⟨ret_i64 (by rw [← Lib.len8_int x h0 h1]; unfold wrap64; rfl), rfl⟩

theorem lead8_any (x : Int) (w : World) (h0 : 0 ≤ x) (h1 : x ≤ 255) : Calls Try.prog 31 #[.int .u8 x] w fun e w' => e = .returned (.int .i64 (8 - (Lib.bitLen x.toNat : Int))) ∧ w = w' := by
  have l := Lib.bitLen_le8 ⟨x.toNat, by omega⟩
  simp only at l
  go_enter Try.func31, Try.ntmps31
  go_wp2_with (go_at_call 35; refine (len8_any x _ h0 h1).mono ?_; rintro e w' ⟨rfl, rfl⟩)
  go_ret
  exact ⟨rfl, rfl⟩
theorem idx8 (y : Nat) (hy : y < Lib.len8tab.size) (h : y < 256) : ((Lib.len8tab[y]'hy).toNat : Int) = (Lib.bitLen y : Int) := by
  have := Lib.len8_of (y : Int) (by omega) (by omega)
  simp only [Int.toNat_natCast] at this
  rw [← this]
  simp only [Lib.len8, Int.toNat_natCast, ByteArray.getElem?_lt' _ _ hy, Option.getD_some]
theorem fin8 (x y s : Nat) (hy : y < Lib.len8tab.size) (h : y < 256) (e : Lib.bitLen x = s + Lib.bitLen y) (hs : s ≤ 56 := by omega) : wrap64 ((s : Int) + wrap64 ((Lib.len8tab[y]'hy).toNat : Int)) = (Lib.bitLen x : Int) := by
  have hb := Lib.bitLen_le8 ⟨y, h⟩
  simp only at hb
  rw [idx8 y hy h, e]
  unfold wrap64
  omega
theorem fin0 (y : Nat) (hy : y < Lib.len8tab.size) (h : y < 256) : wrap64 ((Lib.len8tab[y]'hy).toNat : Int) = (Lib.bitLen y : Int) := by
  have hb := Lib.bitLen_le8 ⟨y, h⟩
  simp only at hb
  rw [idx8 y hy h]
  unfold wrap64
  omega
set_option maxHeartbeats 4000000 in
set_option maxRecDepth 100000 in
theorem len64_any (x : Int) (w : World) (h0 : 0 ≤ x) (h1 : x ≤ 18446744073709551615) :
    Calls Try.prog 29 #[.int .u64 x] w fun e w' => e = .returned (.int .i64 (Lib.bitLen x.toNat)) ∧ w = w' := by
  go_enter Try.func29, Try.ntmps29
  go_wp2
  all_goals first
    | (exfalso; rename_i hh; refine hh ⟨by omega, ?_⟩; rw [Lib.len8tab_size]; omega)
    | (go_ret; refine ⟨ret_i64 ?_, rfl⟩)
  · exact fin8 x.toNat (x / 4294967296 / 65536 / 256).toNat 56 _ (by omega) (by have e : (x / 4294967296 / 65536 / 256).toNat = x.toNat / 72057594037927936 := (by omega); rw [e]; exact Lib.bitLen_shift56 x.toNat (by omega) (by omega))
  · exact fin8 x.toNat (x / 4294967296 / 65536).toNat 48 _ (by omega) (by have e : (x / 4294967296 / 65536).toNat = x.toNat / 281474976710656 := (by omega); rw [e]; exact Lib.bitLen_shift48 x.toNat (by omega) (by omega))
  · exact fin8 x.toNat (x / 4294967296 / 256).toNat 40 _ (by omega) (by have e : (x / 4294967296 / 256).toNat = x.toNat / 1099511627776 := (by omega); rw [e]; exact Lib.bitLen_shift40 x.toNat (by omega) (by omega))
  · exact fin8 x.toNat (x / 4294967296).toNat 32 _ (by omega) (by have e : (x / 4294967296).toNat = x.toNat / 4294967296 := (by omega); rw [e]; exact Lib.bitLen_shift32 x.toNat (by omega) (by omega))
  · exact fin8 x.toNat (x / 65536 / 256).toNat 24 _ (by omega) (by have e : (x / 65536 / 256).toNat = x.toNat / 16777216 := (by omega); rw [e]; exact Lib.bitLen_shift24 x.toNat (by omega) (by omega))
  · exact fin8 x.toNat (x / 65536).toNat 16 _ (by omega) (by have e : (x / 65536).toNat = x.toNat / 65536 := (by omega); rw [e]; exact Lib.bitLen_shift16 x.toNat (by omega) (by omega))
  · exact fin8 x.toNat (x / 256).toNat 8 _ (by omega) (by have e : (x / 256).toNat = x.toNat / 256 := (by omega); rw [e]; exact Lib.bitLen_shift8 x.toNat (by omega) (by omega))
  · exact (congrArg wrap64 (fin0 x.toNat _ (by omega))).trans (by have := Lib.bitLen_le x.toNat 64 (by omega) (by omega); unfold wrap64; omega)

/-- Is there room in a sort? -/
def fitB (n k : Nat) : Bool := k == 8 || decide (n < 2 ^ (7 + 7 * k))
theorem fitB_no {n k : Nat} (h : k < srt n) : fitB n k = false := by
  have h8 := srt_le n
  have h1 := srt_ge n (by omega)
  have h2 : 2 ^ (7 + 7 * k) ≤ 2 ^ (7 * srt n) := Nat.pow_le_pow_right (by omega) (by omega)
  unfold fitB
  rw [Bool.or_eq_false_iff]
  exact ⟨by simp; omega, by simp; omega⟩
theorem fitB_yes (n : Nat) : fitB n (srt n) = true := by
  unfold fitB
  have h8 := srt_le n
  by_cases h : srt n = 8
  · rw [h]; rfl
  · have := srt_lt' n (by omega)
    rw [Bool.or_eq_true]; exact .inr (by simpa using this)
theorem room_any (k : Nat) (w : World) (h : k ≤ 7) : Calls Try.prog 34 #[.int .i64 k] w fun e w' => e = .returned (.int .i64 ((7 + 7 * k : Nat) : Int)) ∧ w = w' := by
  have hk : ((k : Int) == 8) = false := by simp; omega
  go_enter Try.func34, Try.ntmps34
  go_wp2
  go_ret
  exact ⟨by simp, rfl⟩
theorem shr_lt (n m : Nat) : ((n : Int) / 2 ^ m == 0) = decide (n < 2 ^ m) := by
  have e : ((n : Int) / 2 ^ m) = ((n / 2 ^ m : Nat) : Int) := by simp
  rw [e, Bool.eq_iff_iff]
  simp only [beq_iff_eq, decide_eq_true_eq]
  rw [show (0 : Int) = ((0 : Nat) : Int) from rfl, Int.ofNat_inj, Nat.div_eq_zero_iff]
  have := Nat.two_pow_pos m
  omega
theorem fits_any (n : Nat) (k : Nat) (w : World) (h : k ≤ 8) : Calls Try.prog 30 #[.int .u64 n, .int .i64 k] w fun e w' => e = .returned (.bool (fitB n k)) ∧ w = w' := by
  by_cases h8 : k = 8
  · subst h8
    go_enter Try.func30, Try.ntmps30
    go_wp2
    go_ret
    exact ⟨rfl, rfl⟩
  · have hk : ((k : Int) == 8) = false := by simp; omega
    have e := shr_lt n (7 + 7 * k)
    have E := Lib.hid e
    clear e
    go_enter Try.func30, Try.ntmps30
    go_wp2_with (go_at_call 34; refine (room_any k _ (by omega)).mono ?_; rintro e w' ⟨rfl, rfl⟩)
    go_ret
    refine ⟨ret_b ?_, rfl⟩
    have e1 : fitB n k = decide (n < 2 ^ (7 + 7 * k)) := by unfold fitB; simp; omega
    rw [e1, ← E.out]
theorem par_lead (c k : Nat) (h : c ≤ 255) (hk : k < 8) (hl : k ≤ lead c) : (c / 2 ^ (7 - k)) % 2 = if k < lead c then 1 else 0 := by
  have hd : ∀ c : Fin 256, ∀ k : Fin 8, k.val ≤ lead c.val → (c.val / 2 ^ (7 - k.val)) % 2 = if k.val < lead c.val then 1 else 0 := by decide +kernel
  exact hd ⟨c, by omega⟩ ⟨k, hk⟩ hl
theorem behind_any (c : Nat) (w : World) (h : c ≤ 255) : Calls Try.prog 27 #[.int .u8 c] w fun e w' => e = .returned (.int .i64 (lead c)) ∧ w = w' := by
  have h8 := lead_le c
  go_enter Try.func27, Try.ntmps27
  go_wp2
  go_loop [3] (fun n => ∃ k : Nat, k ≤ lead c ∧ n = .int .i64 k) (fun n => 8 - (intOf n).toNat)
  case atStart => exact ⟨0, by omega, rfl⟩
  case round =>
    obtain ⟨k, hk, rfl⟩ := hrel
    by_cases hlt : k < 8
    · have hp := par_lead c k h hlt hk
      have e : ((c : Int) / 2 ^ (7 - k)) = ((c / 2 ^ (7 - k) : Nat) : Int) := by simp
      by_cases hl : k < lead c
      · have ht : (((c : Int) / 2 ^ (7 - k)).tmod 2 == 1) = true := by rw [if_pos hl] at hp; rw [e]; generalize c / 2 ^ (7 - k) = q at hp; rw [Int.tmod_eq_emod_of_nonneg (by omega), beq_iff_eq]; omega
        clear e hp
        go_wp2
        go_round
        case rel => exact ⟨k + 1, by omega, by go_num⟩
        case measure => simp [intOf]; omega
      · have ht : (((c : Int) / 2 ^ (7 - k)).tmod 2 == 1) = false := by rw [if_neg hl] at hp; rw [e]; generalize c / 2 ^ (7 - k) = q at hp; rw [Int.tmod_eq_emod_of_nonneg (by omega), beq_eq_false_iff_ne]; omega
        have hk' : k = lead c := by omega
        have HK := Lib.hid hk'
        clear e hp hk'
        go_wp2
        go_ret
        exact ⟨ret_i64 (by rw [← HK.out]), rfl⟩
    · have hk' : k = lead c := by omega
      have HK := Lib.hid hk'
      clear hk'
      go_wp2
      go_ret
      exact ⟨ret_i64 (by rw [← HK.out]), rfl⟩
theorem bits_ge (x k : Nat) (h : 2 ^ k ≤ x) (hx : x < 2 ^ 64) : k + 1 ≤ Lib.bitLen x := by
  rw [Lib.bitLen_shift k x h hx]
  have h1 : x / 2 ^ k ≠ 0 := by
    have := Nat.div_pos h (Nat.two_pow_pos k)
    omega
  have h2 := Nat.div_le_self x (2 ^ k)
  rw [Lib.bitLen_half _ h1 (by omega)]
  omega
theorem srt_bits (n : Nat) (h : n < 2 ^ 64) : srt n = min ((Lib.bitLen n - 1) / 7) 8 := by
  have h8 := srt_le n
  have h1 : 0 < srt n → 7 * srt n + 1 ≤ Lib.bitLen n := fun h0 => bits_ge n _ (srt_ge n h0) h
  by_cases hk : srt n = 8
  · have := h1 (by omega)
    omega
  · have h2 := Lib.bitLen_le n (7 + 7 * srt n) (by omega) (srt_lt' n (by omega))
    omega
/-- The closure of PutNum that tells the sort. -/
theorem sort_any (B n : Nat) (w : World) (hc : w.cell? ⟨B, 0, none⟩ = some (.int .u64 n)) (hn : n < 2 ^ 64) : Calls Try.prog 28 #[.pointer (some ⟨B, 0, none⟩)] w fun e w' => e = .returned (.int .i64 (srt n)) ∧ w = w' := by
  have hb := Lib.bitLen_le n 64 (by omega) hn
  have hs := Lib.hid (srt_bits n hn)
  obtain ⟨b, hbe⟩ : ∃ b, Lib.bitLen n = b := ⟨_, rfl⟩
  rw [hbe] at hb hs
  have HB := Lib.hid hbe
  clear hbe
  go_enter Try.func28, Try.ntmps28
  go_wp2_with (go_at_call 29; refine (len64_any n _ (by omega) (by omega)).mono ?_; rintro e w' ⟨rfl, rfl⟩; simp only [Int.toNat_natCast]; rw [HB.out])
  go_ret
  exact ⟨ret_i64 (by rw [hs.out]; omega), rfl⟩
end Go.Proofs.Ytjfdmbbhpabgnaa
