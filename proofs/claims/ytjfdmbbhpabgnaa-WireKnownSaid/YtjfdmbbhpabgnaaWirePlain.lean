/- The plain law of numbers as bytes: a number's row, and how a row is read. No condition. -/
import Derived.Test.YtjfdmbbhpabgnaaBase
namespace Go.Proofs.Ytjfdmbbhpabgnaa

/-- The bits of a sort. -/
def lim (k : Nat) : Nat := if k = 8 then 64 else 7 + 7 * k
/-- A number's sort. -/
def srt (n : Nat) : Nat := if n < 2 ^ 7 then 0 else if n < 2 ^ 14 then 1 else if n < 2 ^ 21 then 2 else if n < 2 ^ 28 then 3 else if n < 2 ^ 35 then 4 else if n < 2 ^ 42 then 5 else if n < 2 ^ 49 then 6 else if n < 2 ^ 56 then 7 else 8
/-- So many bytes of a number, the greatest first. -/
def be : Nat → Nat → List UInt8
  | 0, _ => []
  | k + 1, n => be k (n / 256) ++ [UInt8.ofNat (n % 256)]
/-- So many ones at a byte's head. -/
def ones (k : Nat) : Nat := 256 - 2 ^ (8 - k)
/-- A number in a sort. -/
def rowk (k n : Nat) : List UInt8 := UInt8.ofNat (ones k + n / 256 ^ k) :: be k n
/-- A number's row. -/
def row (n : Nat) : List UInt8 := rowk (srt n) n
/-- How many ones stand at a byte's head. -/
def lead (f : Nat) : Nat := if f < 128 then 0 else if f < 192 then 1 else if f < 224 then 2 else if f < 240 then 3 else if f < 248 then 4 else if f < 252 then 5 else if f < 254 then 6 else if f < 255 then 7 else 8
/-- Bytes behind a number. -/
def num (n : Nat) (l : List UInt8) : Nat := l.foldl (fun a b => a * 256 + b.toNat) n
/-- What is read: the number, and how many bytes. -/
def rd (l : List UInt8) : Option (Nat × Nat) := match l with
  | [] => none
  | f :: r => if r.length < lead f.toNat then none else if 0 < lead f.toNat ∧ num (f.toNat - ones (lead f.toNat)) (r.take (lead f.toNat)) < 2 ^ (7 * lead f.toNat) then none
    else some (num (f.toNat - ones (lead f.toNat)) (r.take (lead f.toNat)), 1 + lead f.toNat)

theorem srt_le (n : Nat) : srt n ≤ 8 := by
  unfold srt; repeat' split
  all_goals omega
theorem srt_lt (n : Nat) (h : n < 2 ^ 64) : n < 2 ^ lim (srt n) := by
  unfold srt lim; repeat' (first | (split; (first | (simp; omega) | skip)) | skip)
  all_goals simp_all
theorem srt_ge (n : Nat) (h : 0 < srt n) : 2 ^ (7 * srt n) ≤ n := by
  revert h; unfold srt
  repeat' split
  all_goals intro h
  all_goals simp at *
  all_goals omega
theorem srt_eq (k n : Nat) (hk : k ≤ 8) (h1 : n < 2 ^ lim k) (h2 : 0 < k → 2 ^ (7 * k) ≤ n) : srt n = k := by
  have : k = 0 ∨ k = 1 ∨ k = 2 ∨ k = 3 ∨ k = 4 ∨ k = 5 ∨ k = 6 ∨ k = 7 ∨ k = 8 := by omega
  unfold srt
  rcases this with rfl | rfl | rfl | rfl | rfl | rfl | rfl | rfl | rfl <;> simp [lim] at h1 h2 ⊢ <;> (repeat' split) <;> omega
theorem srt_lt' (n : Nat) (h : srt n < 8) : n < 2 ^ (7 + 7 * srt n) := by
  revert h; unfold srt
  repeat' split
  all_goals intro h
  all_goals simp at *
  all_goals omega
theorem srt_mono (a b : Nat) (h : a ≤ b) : srt a ≤ srt b := by
  rcases Nat.lt_or_ge (srt b) (srt a) with h1 | h1
  · exfalso
    have h2 := srt_le a
    have h3 := srt_ge a (by omega)
    have h4 := srt_lt' b (by omega)
    have h5 : 2 ^ (7 + 7 * srt b) ≤ 2 ^ (7 * srt a) := Nat.pow_le_pow_right (by omega) (by omega)
    omega
  · exact h1
theorem srt_half (n : Nat) (h : n < 2 ^ 64) : srt n = srt (2 * (n / 2)) := by
  have h1 := srt_lt (2 * (n / 2)) (by omega)
  refine srt_eq _ n (srt_le _) ?_ (fun h0 => by have := srt_ge (2 * (n / 2)) h0; omega)
  obtain ⟨l, hl⟩ : ∃ l, lim (srt (2 * (n / 2))) = l + 1 := ⟨lim (srt (2 * (n / 2))) - 1, by unfold lim; split <;> omega⟩
  rw [hl, Nat.pow_succ] at h1 ⊢
  omega
theorem be_len (k n : Nat) : (be k n).length = k := by
  induction k generalizing n with
  | zero => rfl
  | succ k ih => simp [be, ih]
theorem rowk_len (k n : Nat) : (rowk k n).length = k + 1 := by simp [rowk, be_len]
theorem row_len (n : Nat) : (row n).length = srt n + 1 := rowk_len _ _
theorem num_snoc (n : Nat) (l : List UInt8) (b : UInt8) : num n (l ++ [b]) = num n l * 256 + b.toNat := by simp [num]
theorem num_be (k n : Nat) : num (n / 256 ^ k) (be k n) = n := by
  induction k generalizing n with
  | zero => simp [num, be]
  | succ k ih =>
    rw [be, num_snoc]
    have e : n / 256 ^ (k + 1) = n / 256 / 256 ^ k := by rw [Nat.pow_succ', Nat.div_div_eq_div_mul]
    rw [e, ih]
    simp; omega
theorem num_lt (c : Nat) (n : Nat) (l : List UInt8) (h : n < c) : num n l < c * 256 ^ l.length := by
  induction l generalizing n c with
  | nil => simpa [num] using h
  | cons b l ih =>
    have hb := b.toNat_lt
    have e : num n (b :: l) = num (n * 256 + b.toNat) l := rfl
    have := ih (c * 256) (n * 256 + b.toNat) (by simp at hb; omega)
    rw [e, List.length_cons, Nat.pow_succ', ← Nat.mul_assoc]; exact this
theorem be_num (n : Nat) (l : List UInt8) : be l.length (num n l) = l ∧ num n l / 256 ^ l.length = n := by
  generalize hk : l.length = k
  induction k generalizing l with
  | zero => cases l <;> simp_all [num, be]
  | succ k ih =>
    obtain ⟨r, b, rfl⟩ : ∃ r b, l = r ++ [b] := by
      rcases List.eq_nil_or_concat l with h | ⟨r, b, h⟩
      · subst h; simp at hk
      · exact ⟨r, b, by simpa using h⟩
    have hr : r.length = k := by simpa using hk
    obtain ⟨h1, h2⟩ := ih r hr
    have hb := b.toNat_lt
    simp at hb
    rw [num_snoc, be]
    have e1 : (num n r * 256 + b.toNat) / 256 = num n r := by omega
    have e2 : (num n r * 256 + b.toNat) % 256 = b.toNat := by omega
    rw [e1, e2, h1, Nat.pow_succ', ← Nat.div_div_eq_div_mul, e1]
    exact ⟨by simp, h2⟩
theorem lead_le (f : Nat) : lead f ≤ 8 := by unfold lead; repeat' split
                                             all_goals omega
theorem lead_bound (f : Nat) (hf : f ≤ 255) : ones (lead f) ≤ f ∧ f - ones (lead f) < 2 ^ (lim (lead f) - 8 * lead f) := by
  unfold lead ones lim; repeat' split
  all_goals simp_all
  all_goals omega
theorem lim_ge (k : Nat) (h : k ≤ 8) : 8 * k ≤ lim k := by unfold lim; split <;> omega
theorem ones_le (k : Nat) : ones k ≤ 255 := by unfold ones; have := Nat.two_pow_pos (8 - k); omega
theorem top_lt (k n : Nat) (hk : k ≤ 8) (h : n < 2 ^ lim k) : n / 256 ^ k < 2 ^ (lim k - 8 * k) := by
  rw [Nat.div_lt_iff_lt_mul (by exact Nat.pow_pos (by omega)), show (256 : Nat) = 2 ^ 8 from rfl, ← Nat.pow_mul, ← Nat.pow_add, Nat.sub_add_cancel (lim_ge k hk)]
  exact h
theorem lead_ones (k m : Nat) (hk : k ≤ 8) (h : m < 2 ^ (lim k - 8 * k)) : ones k + m ≤ 255 ∧ lead (ones k + m) = k := by
  have : k = 0 ∨ k = 1 ∨ k = 2 ∨ k = 3 ∨ k = 4 ∨ k = 5 ∨ k = 6 ∨ k = 7 ∨ k = 8 := by omega
  rcases this with rfl | rfl | rfl | rfl | rfl | rfl | rfl | rfl | rfl <;> simp [lim, ones] at h ⊢ <;> refine ⟨by omega, ?_⟩ <;> unfold lead <;> (repeat' split) <;> omega
/-- What is put in a sort, is read: the number, if the sort is its own. -/
theorem rd_rowk (k n : Nat) (r : List UInt8) (hk : k ≤ 8) (h : n < 2 ^ lim k) : rd (rowk k n ++ r) = if 0 < k ∧ n < 2 ^ (7 * k) then none else some (n, 1 + k) := by
  have h1 := top_lt k n hk h
  obtain ⟨h2, h3⟩ := lead_ones k _ hk h1
  have e : (UInt8.ofNat (ones k + n / 256 ^ k)).toNat = ones k + n / 256 ^ k := by simp; omega
  unfold rd rowk
  simp only [List.cons_append, e, h3]
  rw [if_neg (by simp [be_len]), List.take_append_of_le_length (by rw [be_len]; exact Nat.le_refl _), List.take_of_length_le (by rw [be_len]; exact Nat.le_refl _), Nat.add_sub_cancel_left, num_be]
theorem rd_row (n : Nat) (r : List UInt8) (h : n < 2 ^ 64) : rd (row n ++ r) = some (n, (row n).length) := by
  unfold row
  rw [rd_rowk _ _ _ (srt_le n) (srt_lt n h), if_neg, rowk_len, Nat.add_comm]
  intro ⟨h1, h2⟩
  have := srt_ge n h1
  omega
/-- What is read, is a number's row. -/
theorem rd_some {l : List UInt8} {n m : Nat} (h : rd l = some (n, m)) : n < 2 ^ 64 ∧ m = (row n).length ∧ l = row n ++ l.drop m ∧ m ≤ l.length := by
  unfold rd at h
  split at h
  · cases h
  · rename_i f r
    split at h
    · cases h
    · split at h
      · cases h
      · rename_i h1 h2
        have hf := f.toNat_lt
        simp at hf
        have hk := lead_le f.toNat
        obtain ⟨b1, b2⟩ := lead_bound f.toNat (by omega)
        generalize hke : lead f.toNat = k at *
        have htl : (r.take k).length = k := by rw [List.length_take]; omega
        have hn := num_lt _ (f.toNat - ones k) (r.take k) b2
        have hbn := be_num (f.toNat - ones k) (r.take k)
        rw [htl, show (256 : Nat) = 2 ^ 8 from rfl, ← Nat.pow_mul, ← Nat.pow_add, Nat.sub_add_cancel (lim_ge k hk)] at hn
        rw [htl] at hbn
        simp only [Option.some.injEq, Prod.mk.injEq] at h
        obtain ⟨h3, h4⟩ := h
        rw [h3] at hn hbn h2
        have hs : srt n = k := srt_eq k n hk hn (fun h0 => by
          rcases Nat.lt_or_ge n (2 ^ (7 * k)) with h5 | h5
          · exact absurd ⟨h0, h5⟩ h2
          · exact h5)
        have h64 : n < 2 ^ 64 := Nat.lt_of_lt_of_le hn (Nat.pow_le_pow_right (by omega) (by unfold lim; split <;> omega))
        have hr : row n = f :: r.take k := by
          unfold row rowk
          rw [hs, hbn.1, hbn.2, show ones k + (f.toNat - ones k) = f.toNat from by omega]
          simp
        refine ⟨h64, by rw [hr]; simp; omega, ?_, by simp; omega⟩
        rw [hr, ← h4, Nat.add_comm 1 k]
        simp
/-- A signed number's. -/
def zz (i : Int) : Nat := if i < 0 then (2 * (-(i + 1)) + 1).toNat else (2 * i).toNat
def unzz (n : Nat) : Int := if n % 2 = 1 then -((n / 2 : Nat) : Int) - 1 else ((n / 2 : Nat) : Int)
theorem unzz_zz (i : Int) : unzz (zz i) = i := by unfold unzz zz; split <;> split <;> omega
theorem zz_lt (i : Int) (h1 : -9223372036854775808 ≤ i) (h2 : i ≤ 9223372036854775807) : zz i < 2 ^ 64 := by unfold zz; split <;> simp <;> omega
theorem zz_half (i : Int) : zz i / 2 = (max i (-i - 1)).toNat := by unfold zz; split <;> omega
theorem srt_zz_not (i : Int) (h1 : -9223372036854775808 ≤ i) (h2 : i ≤ 9223372036854775807) : srt (zz (-i - 1)) = srt (zz i) := by
  rw [srt_half _ (zz_lt i h1 h2), srt_half _ (zz_lt (-i - 1) (by omega) (by omega)), zz_half, zz_half]
  congr 3; omega
theorem srt_zz_mono (a b : Int) (ha1 : -9223372036854775808 ≤ a) (ha2 : a ≤ 9223372036854775807) (h1 : -9223372036854775808 ≤ b) (h2 : b ≤ 9223372036854775807) (h : max a (-a - 1) ≤ max b (-b - 1)) : srt (zz a) ≤ srt (zz b) := by
  rw [srt_half _ (zz_lt a ha1 ha2), srt_half _ (zz_lt b h1 h2), zz_half, zz_half]
  exact srt_mono _ _ (by omega)
theorem row_inj {a b : Nat} (ha : a < 2 ^ 64) (hb : b < 2 ^ 64) (h : row a = row b) : a = b := by
  have h1 := rd_row a [] ha
  rw [h, rd_row b [] hb] at h1
  simpa using (congrArg (Option.map Prod.fst) h1).symm
theorem lead_row (n : Nat) (h : n < 2 ^ 64) : ∃ f, row n = f :: be (srt n) n ∧ lead f.toNat = srt n := by
  have h1 := top_lt _ n (srt_le n) (srt_lt n h)
  obtain ⟨h2, h3⟩ := lead_ones _ _ (srt_le n) h1
  exact ⟨_, rfl, by rw [show (UInt8.ofNat (ones (srt n) + n / 256 ^ srt n)).toNat = ones (srt n) + n / 256 ^ srt n from by simp; omega]; exact h3⟩
end Go.Proofs.Ytjfdmbbhpabgnaa
