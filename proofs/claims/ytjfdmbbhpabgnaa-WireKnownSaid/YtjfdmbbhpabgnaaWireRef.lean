/- Walks of the document's answer for wire: PutNum, PutInt, PutText. No condition. -/
import Derived.Test.YtjfdmbbhpabgnaaWireBits
import Derived.Laws.IdiomStrings
namespace Go.Proofs.Ytjfdmbbhpabgnaa
open Go.RowKit

attribute [go_sem] be_len row_len List.length_cons List.length_nil
/-- A text of bytes. -/
def str (l : List UInt8) : ByteArray := ⟨l.toArray⟩
theorem be_cons (k n : Nat) : be (k + 1) n = UInt8.ofNat (n / 256 ^ k % 256) :: be k n := by
  induction k generalizing n with
  | zero => simp [be]
  | succ k ih => rw [be, ih, be]; simp [Nat.pow_succ', Nat.div_div_eq_div_mul]
theorem ones_succ (k : Nat) (h : k < 8) : ones (k + 1) = ones k + 128 / 2 ^ k := by
  have : ∀ k : Fin 8, ones (k.val + 1) = ones k.val + 128 / 2 ^ k.val := by decide
  exact this ⟨k, h⟩

theorem str_app (a b : List UInt8) : str a ++ str b = str (a ++ b) := by
  apply ByteArray.ext; simp [str]
theorem str_nil : (⟨#[]⟩ : ByteArray) = str [] := rfl
@[go_sem] theorem str_size (l : List UInt8) : (str l).size = l.length := by simp [str, ByteArray.size]
theorem conv1 (w : World) (x : Int) (h0 : 0 ≤ x) (h1 : x ≤ 255) : (convert 45 9 (.slice (some ⟨w.heap.size, 0, none⟩) 1 1)).run Try.prog (w.alloc (.cells #[.int .u8 x] 5)) = .ok (.string (str [UInt8.ofNat x.toNat])) (w.alloc (.cells #[.int .u8 x] 5)) :=
  run_convert_bytes_back _ _ _ _ _ 1 [UInt8.ofNat x.toNat] Try.underlying45 Try.underlying5 Try.underlying9 (fun j hj => by
    obtain rfl : j = 0 := by simpa using hj
    go_simp
    omega)

set_option maxHeartbeats 1000000 in
theorem rput_any (s : ByteArray) (n : Nat) (w : World) (hs : s.size ≤ 1000000) (hn : n < 2 ^ 64) :
    Calls Try.prog 10 #[.string s, .int .u64 n] w fun e w' => e = .returned (.string (s ++ str (row n))) ∧ Below w.heap.size w w' := by
  have h8 := srt_le n
  have hlt64 := srt_lt n hn
  go_enter Try.func10, Try.ntmps10
  go_wp2
  go_loop [5] (fun i => ∃ k : Nat, k ≤ srt n ∧ i = .int .i64 k) (fun i => 8 - (intOf i).toNat)
  case atStart => exact ⟨0, by omega, rfl⟩
  case round =>
    obtain ⟨k, hk, rfl⟩ := hrel
    by_cases hlt : k < srt n
    · have hf := fitB_no hlt
      go_wp2_with (go_at_call 30; refine (fits_any n k _ (by omega)).mono ?_; rintro e w' ⟨rfl, rfl⟩)
      go_round
      case rel => exact ⟨k + 1, by omega, by go_num⟩
      case measure => simp [intOf]; omega
    · have hke : srt n = k := by omega
      have hf := fitB_yes n
      rw [hke] at hf h8 hlt64
      have H64 := Lib.hid hlt64
      have HK := Lib.hid hke
      clear hlt hk hke hlt64
      go_wp2_with (go_at_call 30; refine (fits_any n k _ (by omega)).mono ?_; rintro e w' ⟨rfl, rfl⟩)
      clear hf
      go_loopw [7, 6, 1] (fun i b m wr => ∃ j : Nat, j ≤ k ∧ i = .int .i64 j ∧ b = .string (str (be j n)) ∧ m = .int .u64 ((n / 256 ^ j : Nat) : Int) ∧ Below w.heap.size w wr) (fun i _ _ _ => k - (intOf i).toNat)
      case atStart => exact ⟨0, by omega, rfl, rfl, by simp, Below.refl _ _⟩
      case round =>
        obtain ⟨j, hj, rfl, rfl, rfl, hbel⟩ := hrel
        have hm64 : n / 256 ^ j < 2 ^ 64 := Nat.lt_of_le_of_lt (Nat.div_le_self _ _) hn
        have hsn : str [UInt8.ofNat (n / 256 ^ j % 256)] ++ str (be j n) = str (be (j + 1) n) := by rw [str_app, be_cons]; rfl
        have hdv : n / 256 ^ (j + 1) = n / 256 ^ j / 256 := by rw [Nat.pow_succ, Nat.div_div_eq_div_mul]
        obtain ⟨m, hm⟩ : ∃ m, n / 256 ^ j = m := ⟨_, rfl⟩
        rw [hm] at hm64 hsn hdv ⊢
        have HS := Lib.hid (And.intro hsn (And.intro hdv hm))
        have HB := Lib.hid hbel
        have hcv := conv1 wr ((m : Int) % 256) (by omega) (by omega)
        clear hm hbel hsn hdv
        by_cases hlt : j < k
        · go_wp2
          go_roundw
          case rel =>
            refine ⟨j + 1, by omega, by go_num, ?_, ?_, ?_⟩
            · rw [← HS.out.1]
            · rw [HS.out.2.1]; simp
            · exact fb_alloc HB.out _
          case measure => simp [intOf]; omega
        · obtain rfl : j = k := by omega
          clear hcv hj hlt
          go_wp2
          go_loop [9, 8] (fun i o => ∃ q : Nat, q ≤ j ∧ i = .int .i64 q ∧ o = .int .i64 (ones q)) (fun i _ => j - (intOf i).toNat)
          case atStart => exact ⟨0, by omega, rfl, rfl⟩
          case round =>
            obtain ⟨q, hq, rfl, rfl⟩ := hrel
            have ho := ones_le q
            by_cases hlt : q < j
            · have hsn := ones_succ q (by omega)
              have hd : 128 / 2 ^ q ≤ 128 := Nat.div_le_self _ _
              obtain ⟨d, hde⟩ : ∃ d, 128 / 2 ^ q = d := ⟨_, rfl⟩
              have hde' : (128 : Int) / 2 ^ q = (d : Int) := by rw [← hde]; simp
              obtain ⟨o, hoe⟩ : ∃ o, ones q = o := ⟨_, rfl⟩
              rw [hde] at hd
              rw [hoe] at ho ⊢
              have HSN := Lib.hid (And.intro hsn (And.intro hde hoe))
              clear hsn hde hoe
              go_wp2
              go_round
              case rel => exact ⟨q + 1, by omega, by go_num, by rw [HSN.out.1, HSN.out.2.1, HSN.out.2.2]; simp⟩
              case measure => simp [intOf]; omega
            · obtain rfl : q = j := by omega
              obtain ⟨o, hoe⟩ : ∃ o, ones q = o := ⟨_, rfl⟩
              have htop := top_lt q n (by omega) H64.out
              rw [HS.out.2.2] at htop
              have hon := (lead_ones q m (by omega) htop).1
              rw [hoe] at ho hon ⊢
              have HO := Lib.hid hoe
              have hcv := conv1 wr ((o : Int) + m) (by omega) (by omega)
              have hm2 : m ≤ 255 := by omega
              clear hlt hq hoe ho htop
              go_wp2
              go_ret
              refine ⟨?_, fb_alloc HB.out _⟩
              congr 2
              rw [ByteArray.append_assoc, str_app]
              unfold row rowk
              rw [HK.out, HO.out, HS.out.2.2]
              simp

theorem zz_neg (i : Int) (h : i < 0) : (zz i : Int) = -(i + 1) * 2 + 1 := by unfold zz; rw [if_pos h]; omega
theorem zz_pos (i : Int) (h : ¬ i < 0) : (zz i : Int) = i * 2 := by unfold zz; rw [if_neg h]; omega
theorem rputInt_any (s : ByteArray) (i : Int) (w : World) (hs : s.size ≤ 1000000) (h1 : -9223372036854775808 ≤ i) (h2 : i ≤ 9223372036854775807) :
    Calls Try.prog 12 #[.string s, .int .i64 i] w fun e w' => e = .returned (.string (s ++ str (row (zz i)))) ∧ Below w.heap.size w w' := by
  have hz := zz_lt i h1 h2
  by_cases h : i < 0
  · have e := zz_neg i h
    have E := Lib.hid e
    clear e
    go_enter Try.func12, Try.ntmps12
    go_wp2_with fail
    rw [← E.out]
    refine (rput_any s (zz i) _ hs hz).mono ?_
    rintro e w1 ⟨rfl, hb1⟩
    go_wp2
    go_ret
    exact ⟨rfl, hb1⟩
  · have e := zz_pos i h
    have E := Lib.hid e
    clear e
    go_enter Try.func12, Try.ntmps12
    go_wp2_with fail
    rw [← E.out]
    refine (rput_any s (zz i) _ hs hz).mono ?_
    rintro e w1 ⟨rfl, hb1⟩
    go_wp2
    go_ret
    exact ⟨rfl, hb1⟩
theorem rputText_any (s t : ByteArray) (w : World) (hs : s.size ≤ 1000000) (ht : t.size ≤ 1000000) :
    Calls Try.prog 14 #[.string s, .string t] w fun e w' => e = .returned (.string (s ++ str (row t.size) ++ t)) ∧ Below w.heap.size w w' := by
  have h8 := srt_le t.size
  go_enter Try.func14, Try.ntmps14
  go_wp2_with (go_at_call 10; refine (rput_any s t.size _ hs (by omega)).mono ?_; rintro e w1 ⟨rfl, hb1⟩)
  go_ret
  exact ⟨rfl, hb1⟩
end Go.Proofs.Ytjfdmbbhpabgnaa
