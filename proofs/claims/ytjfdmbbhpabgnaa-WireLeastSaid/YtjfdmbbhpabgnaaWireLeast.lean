/- Of bytes that are read as a number none fewer would say it; a row that says less than its sort needs is none. No condition. -/
import Derived.Test.YtjfdmbbhpabgnaaWireWorks
import Derived.ChangeMaps5
namespace Go.Proofs.Ytjfdmbbhpabgnaa
open Go.ChangeMaps Go.ChangeShapes Go.WideShapes Go.ChangeAt Go.RowKit

theorem ext_list (s : ByteArray) (a b : Nat) : (s.extract a b).data.toList = (s.data.toList.take b).drop a := by simp [List.drop_take]
theorem ext_eq {s t : ByteArray} (h : s.data.toList = t.data.toList) : s = t := by
  apply ByteArray.ext
  exact Array.toList_inj.1 h

theorem infoU8L : (Try.prog.info? 5).map (fun i => (i.zero, i.size, i.bytes)) = some (some (.int .u8 0), 1, 1) := by kernel_rfl
/-- The wider row while its bytes go in. -/
def widL (K n t : Nat) : List Int := (List.range (K + 1)).map (fun j => if K < j + t then ((n / 256 ^ (K - j) % 256 : Nat) : Int) else if j = 0 then ((ones K : Nat) : Int) else 0)
theorem widL_len (K n t : Nat) : (widL K n t).length = K + 1 := by simp [widL]
theorem widL_set (K n t : Nat) (ht : t < K) : (widL K n t).set (K - t) ((n / 256 ^ t % 256 : Nat) : Int) = widL K n (t + 1) := by
  apply List.ext_getElem
  · simp [widL]
  · intro j h1 h2
    have hj : j < K + 1 := by rw [widL_len] at h2; exact h2
    simp only [List.getElem_set, widL, List.getElem_map, List.getElem_range]
    by_cases h : K - t = j
    · subst h
      rw [if_pos rfl, if_pos (by omega), show K - (K - t) = t by omega]
    · rw [if_neg h]
      by_cases h3 : K < j + t
      · rw [if_pos h3, if_pos (by omega)]
      · have h4 : ¬ K < j + (t + 1) := by omega
        rw [if_neg h3, if_neg h4]
theorem widL_all (K n : Nat) (h : n / 256 ^ K = 0) : (widL K n K).map (Value.int .u8) = Lib.byteCells (rowk K n) := by
  apply List.ext_getElem
  · simp [widL, Lib.byteCells, rowk_len]
  · intro j h1 h2
    have hj : j < K + 1 := by rw [List.length_map, widL_len] at h1; exact h1
    simp only [widL, List.getElem_map, List.getElem_range, Lib.byteCells]
    cases j with
    | zero =>
      rw [if_neg (by omega), if_pos rfl]
      simp only [rowk, List.getElem_cons_zero, h]
      have := ones_le K
      congr 1
      simp
      omega
    | succ j =>
      simp only [rowk, List.getElem_cons_succ]
      rw [if_pos (by omega), be_get K n j (by omega), show K - (j + 1) = K - 1 - j by omega]
      simp
theorem widL_zero (K n : Nat) : widL K n 0 = ((ones K : Nat) : Int) :: List.replicate K 0 := by
  apply List.ext_getElem
  · simp [widL]
  · intro j h1 h2
    have hj : j < K + 1 := by rw [widL_len] at h1; exact h1
    simp only [widL, List.getElem_map, List.getElem_range]
    rw [if_neg (by omega)]
    cases j with
    | zero => simp
    | succ j => simp
theorem widL_head (K n : Nat) : (widL K n K).getD 0 0 = ((ones K : Nat) : Int) := by
  have h9 : ¬ K < 0 + K := by omega
  simp [widL, List.getD_eq_getElem?_getD]
theorem widL_back (K n : Nat) : (widL K n K).set 0 ((ones K : Nat) : Int) = widL K n K := by
  apply List.ext_getElem
  · simp
  · intro j h1 h2
    rw [List.getElem_set]
    by_cases h : 0 = j
    · subst h
      simp [widL]
    · rw [if_neg h]
theorem or_ones (i : Nat) (h : i ≤ 7) : bits BinOp.or IntKind.u8 ((ones i : Nat) : Int) (128 / 2 ^ i) = ((ones (i + 1) : Nat) : Int) := by
  have hd : ∀ i : Fin 8, bits BinOp.or IntKind.u8 ((ones i.val : Nat) : Int) (128 / 2 ^ i.val) = ((ones (i.val + 1) : Nat) : Int) := by decide +kernel
  exact hd ⟨i, by omega⟩
theorem or_zero8 (a : Nat) (h : a ≤ 255) : bits BinOp.or IntKind.u8 (a : Int) 0 = (a : Int) := by
  have hd : ∀ a : Fin 256, bits BinOp.or IntKind.u8 (a.val : Int) 0 = (a.val : Int) := by decide +kernel
  exact hd ⟨a, by omega⟩

set_option maxHeartbeats 2000000 in
set_option maxRecDepth 100000 in
theorem wireLeast_walk (s0 : ByteArray) (n : Nat) (w : World) (_hs0 : s0.size ≤ 9223372036854775807) (hn : n < 2 ^ 64) :
    Calls Try.prog 7 #[.string s0, .int .u64 n] w fun e w' => e = .returned (.bool true) ∧ Below w.heap.size w w' := by
  go_enter Try.func7, Try.ntmps7
  go_wp2_with fail
  obtain ⟨s, hs2⟩ : ∃ s, s0.extract 0 (min (s0.size : Int) 20).toNat = s := ⟨_, rfl⟩
  have hl3 : s.size ≤ 20 := by rw [← hs2, ByteArray.size_extract]; omega
  rw [hs2]
  clear hs2
  refine (newReader_any s _).mono ?_
  rintro e w1 ⟨rfl, hw⟩
  have H1 : Hid (RdA w1 w.heap.size s 0 false ∧ Below w.heap.size w w1) := by rw [← hw]; exact ⟨Arr.new w 57 _, fb_alloc (Below.refl _ _) _⟩
  clear hw
  rcases hr : rd (lft s 0) with _ | ⟨m, q⟩
  · have HR := Lib.hid hr
    clear hr
    go_wp2_with fail
    refine (num_bad H1.out.1 (by omega) (by omega) HR.out).mono ?_
    rintro e w2 ⟨rfl, r1, m1⟩
    have H2 : Hid (RdA w2 w.heap.size s s.size true ∧ Below w.heap.size w w2) := ⟨r1, bel_moved H1.out.2 m1 (Nat.le_refl _)⟩
    clear r1 m1
    go_wp2_with fail
    refine (ok_no w.heap.size s _ _ H2.out.1).mono ?_
    rintro e w' ⟨rfl, rfl⟩
    have HW := Lib.hid H2.out.2
    obtain ⟨n1, hb1, hhead⟩ : ∃ f : UInt8, row n = f :: be (srt n) n ∧ lead f.toNat = srt n := lead_row n hn
    go_wp2_with fail
    refine (put_any ⟨#[]⟩ n _ (by decide) hn).mono ?_
    rintro e wp ⟨rfl, hbp⟩
    have happ : (⟨#[]⟩ : ByteArray) ++ str (row n) = str (row n) := by apply ByteArray.ext; simp
    rw [happ]
    have HP := Lib.hid (fb_call HW.out hbp)
    clear hbp happ
    obtain ⟨k, hk⟩ : ∃ k, srt n = k := ⟨_, rfl⟩
    have h8 := srt_le n
    have hlt' := srt_lt' n
    rw [hk] at hb1 hhead h8 hlt'
    have hrl : (row n).length = k + 1 := by rw [hb1, List.length_cons, be_len]
    have hsz : (str (row n)).size = k + 1 := by rw [str_size, hrl]
    have hfb : (str (row n))[0]'(by rw [hsz]; omega) = n1 := by
      have : ∀ (R : List UInt8) (h : R = n1 :: be k n) (h2 : 0 < (str R).size), (str R)[0]'h2 = n1 := by
        intro R h h2
        subst h
        rfl
      exact this _ hb1 _
    have hf5 : n1.toNat ≤ 255 := Nat.le_of_lt_succ n1.toNat_lt
    have HN := Lib.hid (And.intro hk (And.intro hb1 hlt'))
    clear hb1 hlt'
    have hrl' := hrl
    clear hrl'
    by_cases h8k : k < 8
    · have hmk : (Instr.makeSlice 45 (.int .i64 (↑k + 2)) (.int .i64 (↑k + 2))).run Try.prog wp = .ok (.slice (some ⟨wp.heap.size, 0, none⟩) (k + 2) (k + 2)) (wp.alloc (.cells (List.replicate (k + 2) (Value.int .u8 0)).toArray 5)) := by
        have := run_make_arr (P := Try.prog) 45 5 (.int .u8 0) 1 Try.underlying45 infoU8L rfl (k + 2) (by omega) (by omega) wp
        simpa using this
      go_wp2_with (go_at_call 27; refine (behind_any n1.toNat _ (by omega)).mono ?_; rintro e w' ⟨rfl, rfl⟩; rw [hhead])
      clear hmk
      have HA0 : Hid (Arr (wp.alloc (.cells (Array.replicate (k + 2) (Value.int .u8 0)) 5)) wp.heap.size 5 (((((ones 0 : Nat) : Int)) :: List.replicate (k + 1) 0).map (Value.int .u8)) ∧ Below w.heap.size w (wp.alloc (.cells (Array.replicate (k + 2) (Value.int .u8 0)) 5))) := by
        refine ⟨?_, fb_alloc HP.out _⟩
        have := Arr.new wp 5 (List.replicate (k + 2) (Value.int .u8 0))
        rw [show ((((ones 0 : Nat) : Int)) :: List.replicate (k + 1) 0).map (Value.int .u8) = List.replicate (k + 2) (Value.int .u8 0) from by rw [List.replicate_succ, List.replicate_succ, List.replicate_succ]; simp [ones]]
        simpa using this
      have hG := HP.out.size
      obtain ⟨G, hGe⟩ : ∃ G, wp.heap.size = G := ⟨_, rfl⟩
      rw [hGe] at HA0 hG ⊢
      clear hGe
      go_loopw [11] (fun v wr => ∃ i : Nat, i ≤ k + 1 ∧ v = .int .i64 i ∧ Arr wr G 5 (((((ones i : Nat) : Int)) :: List.replicate (k + 1) 0).map (Value.int .u8)) ∧ Below w.heap.size w wr) (fun v _ => 9 - (intOf v).toNat)
      case atStart => exact ⟨0, by omega, rfl, HA0.out⟩
      case round =>
        obtain ⟨i, hik, rfl, hA, hbel⟩ := hrel
        clear HA0
        by_cases hlt : i ≤ k
        · have c0 : wr.cell? ⟨G, 0, none⟩ = some (.int .u8 ((ones i : Nat) : Int)) := hA.cell 0
          have f0 := hA.frozen 0
          have hor := or_ones i (by omega)
          have HH := Lib.hid (And.intro hA (And.intro hbel hor))
          clear hA hbel hor
          go_wp2
          go_region
          all_goals
            go_wp2
            go_roundw
            case rel =>
              refine ⟨i + 1, by omega, by go_num, ?_, (HH.out.2.1.setCell hG _).drew⟩
              have := HH.out.1.set 0 (.int .u8 ((ones (i + 1) : Nat) : Int))
              rw [HH.out.2.2]
              exact this
            case measure => simp [intOf]; omega
        · obtain rfl : i = k + 1 := by omega
          clear hlt hik
          have hA' := hA
          have hA2 : Arr wr G 5 ((widL (k + 1) n 0).map (Value.int .u8)) := by rw [widL_zero]; exact hA
          have HA2 := Lib.hid (And.intro hA2 hbel)
          clear hA hA' hA2 hbel
          obtain ⟨K, hK⟩ : ∃ K, k + 1 = K := ⟨_, rfl⟩
          have hKi : (k : Int) + 1 = (K : Int) := by omega
          have hnK : n < 2 ^ (7 * K) := by have := HN.out.2.2 h8k; rw [← hK, show 7 * (k + 1) = 7 + 7 * k by omega]; exact this
          have hz : n / 256 ^ K = 0 := by
            refine Nat.div_eq_of_lt (Nat.lt_of_lt_of_le hnK ?_)
            rw [show (256 : Nat) = 2 ^ 8 from rfl, ← Nat.pow_mul]
            exact Nat.pow_le_pow_right (by omega) (by omega)
          have hrd : rd (lft (str (rowk K n)) 0) = none := by
            have h1 := rd_rowk K n [] (by omega) (Nat.lt_of_lt_of_le hnK (Nat.pow_le_pow_right (by omega) (by unfold lim; split <;> omega)))
            rw [if_pos ⟨by omega, hnK⟩, List.append_nil] at h1
            rw [show lft (str (rowk K n)) 0 = rowk K n from by simp [lft, str]]
            exact h1
          have HZ := Lib.hid (And.intro hz hrd)
          rw [hK] at HA2
          clear hz hrd hnK
          go_wp2
          rw [hKi]
          go_loopw [13, 12] (fun v x wr => ∃ z : Nat, z ≤ K ∧ v = .int .i64 z ∧ x = .int .u64 ((n / 256 ^ (K - z) : Nat) : Int) ∧ Arr wr G 5 ((widL K n (K - z)).map (Value.int .u8)) ∧ Below w.heap.size w wr) (fun v _ _ => (intOf v).toNat)
          case atStart => exact ⟨K, Nat.le_refl _, rfl, by simp, by rw [Nat.sub_self]; exact HA2.out.1, HA2.out.2⟩
          case round =>
            obtain ⟨z, hzK, rfl, rfl, hA, hbel⟩ := hrel
            clear HA2
            obtain ⟨t, ht⟩ : ∃ t, K - z = t := ⟨_, rfl⟩
            have hm64 : n / 256 ^ t < 2 ^ 64 := Nat.lt_of_le_of_lt (Nat.div_le_self _ _) hn
            have hdv : n / 256 ^ (t + 1) = n / 256 ^ t / 256 := by rw [Nat.pow_succ, Nat.div_div_eq_div_mul]
            have hws := widL_set K n t
            obtain ⟨m0, hm0⟩ : ∃ m0, n / 256 ^ t = m0 := ⟨_, rfl⟩
            rw [ht] at hA ⊢
            rw [hm0] at hm64 hdv hws ⊢
            by_cases hz0 : 1 ≤ z
            · have hzt : K - t = z := by omega
              rw [hzt] at hws
              have hws2 := hws (by omega)
              have c1 := hA.int (j := z) (by rw [widL_len]; omega)
              have f1 := hA.frozen z
              have ht1 : K - (z - 1) = t + 1 := by omega
              have HH := Lib.hid (And.intro hA (And.intro hbel (And.intro hdv (And.intro hws2 ht1))))
              clear hA hbel hdv hws hws2 hm0 ht hzt ht1
              go_wp2
              go_roundw
              case rel =>
                refine ⟨z - 1, by omega, by rw [show ((z - 1 : Nat) : Int) = (z : Int) - 1 by omega], by rw [HH.out.2.2.2.2, HH.out.2.2.1]; simp, ?_, HH.out.2.1.setCell hG _⟩
                have := HH.out.1.setInt z (↑m0 % 256)
                rw [HH.out.2.2.2.2, ← HH.out.2.2.2.1]
                simpa using this
              case measure => simp [intOf]; omega
            · obtain rfl : z = 0 := by omega
              obtain rfl : t = K := by omega
              have hm00 : m0 = 0 := by rw [← hm0]; exact HZ.out.1
              subst hm00
              have c1 := hA.int (j := 0) (by rw [widL_len]; omega)
              rw [widL_head t n] at c1
              have f1 := hA.frozen 0
              have hoz := or_zero8 (ones t) (ones_le t)
              have hA3 : Arr (wr.setCell ⟨G, 0, none⟩ (.int .u8 ((ones t : Nat) : Int))) G 5 (Lib.byteCells (rowk t n)) := by
                have := hA.setInt 0 ((ones t : Nat) : Int)
                rw [widL_back, widL_all t n HZ.out.1] at this
                exact this
              have hcv := conv_all _ G (k + 2) (rowk t n) (by rw [rowk_len]; omega) hA3
              have HH := Lib.hid (hbel.setCell (p := ⟨G, 0, none⟩) hG (.int .u8 ((ones t : Nat) : Int)))
              clear hA hA3 hbel hdv hws hm0 ht hz0
              go_wp2_with fail
              clear hcv hoz
              obtain ⟨wz, hwz⟩ : ∃ wz, wr.setCell ⟨G, 0, none⟩ (.int .u8 ((ones t : Nat) : Int)) = wz := ⟨_, rfl⟩
              rw [hwz] at HH ⊢
              clear hwz
              refine (newReader_any (str (rowk t n)) _).mono ?_
              rintro e wy ⟨rfl, hw⟩
              have HY : Hid (RdA wy wz.heap.size (str (rowk t n)) 0 false ∧ Below w.heap.size w wy ∧ w.heap.size ≤ wz.heap.size) := by rw [← hw]; exact ⟨Arr.new wz 57 _, fb_alloc HH.out _, HH.out.size⟩
              clear hw
              go_wp2_with fail
              refine (num_bad HY.out.1 (by rw [str_size, rowk_len]; omega) (by omega) HZ.out.2).mono ?_
              rintro e wx ⟨rfl, r1, m1⟩
              have HX := Lib.hid (And.intro r1 (bel_moved HY.out.2.1 m1 HY.out.2.2))
              clear r1 m1
              go_wp2_with fail
              refine (ok_no wz.heap.size _ _ _ HX.out.1).mono ?_
              rintro e w' ⟨rfl, rfl⟩
              go_wp2_with fail
              refine (works_any _).mono ?_
              rintro e w9 ⟨rfl, hb9⟩
              have HB9 := Lib.hid hb9
              clear hb9
              go_wp2
              go_ret
              exact ⟨rfl, fb_call HX.out.2 HB9.out⟩
    · go_wp2_with (go_at_call 27; refine (behind_any n1.toNat _ (by omega)).mono ?_; rintro e w' ⟨rfl, rfl⟩; rw [hhead])
      refine (works_any _).mono ?_
      rintro e w9 ⟨rfl, hb9⟩
      have HB9 := Lib.hid hb9
      clear hb9
      go_wp2
      go_ret
      exact ⟨rfl, fb_call HP.out HB9.out⟩
  · have HR := Lib.hid hr
    have hrs := rd_some hr
    have hls : lft s 0 = s.data.toList := by simp [lft]
    rw [hls] at hrs
    have hq : q ≤ s.size := by have := hrs.2.2.2; rw [Array.length_toList] at this; exact this
    have hrow : ((str (row m)).size = q) := by rw [str_size]; exact hrs.2.1.symm
    have hext : s.extract 0 q = str (row m) := by
      apply ext_eq
      rw [ext_list, List.drop_zero]
      have h1 := hrs.2.2.1
      rw [h1, hrs.2.1, List.take_append_of_le_length (Nat.le_refl _), List.take_length]
      rfl
    have hm64 := hrs.1
    have hsr := row_len m
    clear hr hrs hls
    go_wp2_with fail
    refine (num_at H1.out.1 (by omega) (by omega) HR.out).mono ?_
    rintro e w2 ⟨rfl, r1, m1⟩
    have H2 : Hid (RdA w2 w.heap.size s (0 + q) false ∧ Below w.heap.size w w2) := ⟨r1, bel_moved H1.out.2 m1 (Nat.le_refl _)⟩
    clear r1 m1
    go_wp2_with fail
    refine (ok_yes w.heap.size s _ _ H2.out.1).mono ?_
    rintro e w' ⟨rfl, rfl⟩
    go_wp2_with fail
    refine (put_any ⟨#[]⟩ m _ (by decide) hm64).mono ?_
    rintro e w3 ⟨rfl, hb3⟩
    have happ : (⟨#[]⟩ : ByteArray) ++ str (row m) = str (row m) := by apply ByteArray.ext; simp
    rw [happ]
    have HW := Lib.hid (fb_call H2.out.2 hb3)
    have hq2 : (row m).length = q := by rw [← str_size]; exact hrow
    have HQ := Lib.hid (And.intro hrow hext)
    have heq : ((s.extract 0 q).toList == (str (row m)).toList) = true := by rw [hext]; simp
    have hnq : decide (s.size < q) = false := by simpa using hq
    clear hb3 happ hsr hext hrow
    obtain ⟨n1, hb1, hhead⟩ : ∃ f : UInt8, row n = f :: be (srt n) n ∧ lead f.toNat = srt n := lead_row n hn
    go_wp2_with fail
    refine (put_any ⟨#[]⟩ n _ (by decide) hn).mono ?_
    rintro e wp ⟨rfl, hbp⟩
    have happ : (⟨#[]⟩ : ByteArray) ++ str (row n) = str (row n) := by apply ByteArray.ext; simp
    rw [happ]
    have HP := Lib.hid (fb_call HW.out hbp)
    clear hbp happ
    obtain ⟨k, hk⟩ : ∃ k, srt n = k := ⟨_, rfl⟩
    have h8 := srt_le n
    have hlt' := srt_lt' n
    rw [hk] at hb1 hhead h8 hlt'
    have hrl : (row n).length = k + 1 := by rw [hb1, List.length_cons, be_len]
    have hsz : (str (row n)).size = k + 1 := by rw [str_size, hrl]
    have hfb : (str (row n))[0]'(by rw [hsz]; omega) = n1 := by
      have : ∀ (R : List UInt8) (h : R = n1 :: be k n) (h2 : 0 < (str R).size), (str R)[0]'h2 = n1 := by
        intro R h h2
        subst h
        rfl
      exact this _ hb1 _
    have hf5 : n1.toNat ≤ 255 := Nat.le_of_lt_succ n1.toNat_lt
    have HN := Lib.hid (And.intro hk (And.intro hb1 hlt'))
    clear hb1 hlt'
    have hrl' := hrl
    clear hrl'
    by_cases h8k : k < 8
    · have hmk : (Instr.makeSlice 45 (.int .i64 (↑k + 2)) (.int .i64 (↑k + 2))).run Try.prog wp = .ok (.slice (some ⟨wp.heap.size, 0, none⟩) (k + 2) (k + 2)) (wp.alloc (.cells (List.replicate (k + 2) (Value.int .u8 0)).toArray 5)) := by
        have := run_make_arr (P := Try.prog) 45 5 (.int .u8 0) 1 Try.underlying45 infoU8L rfl (k + 2) (by omega) (by omega) wp
        simpa using this
      go_wp2_with (go_at_call 27; refine (behind_any n1.toNat _ (by omega)).mono ?_; rintro e w' ⟨rfl, rfl⟩; rw [hhead])
      clear hmk
      have HA0 : Hid (Arr (wp.alloc (.cells (Array.replicate (k + 2) (Value.int .u8 0)) 5)) wp.heap.size 5 (((((ones 0 : Nat) : Int)) :: List.replicate (k + 1) 0).map (Value.int .u8)) ∧ Below w.heap.size w (wp.alloc (.cells (Array.replicate (k + 2) (Value.int .u8 0)) 5))) := by
        refine ⟨?_, fb_alloc HP.out _⟩
        have := Arr.new wp 5 (List.replicate (k + 2) (Value.int .u8 0))
        rw [show ((((ones 0 : Nat) : Int)) :: List.replicate (k + 1) 0).map (Value.int .u8) = List.replicate (k + 2) (Value.int .u8 0) from by rw [List.replicate_succ, List.replicate_succ, List.replicate_succ]; simp [ones]]
        simpa using this
      have hG := HP.out.size
      obtain ⟨G, hGe⟩ : ∃ G, wp.heap.size = G := ⟨_, rfl⟩
      rw [hGe] at HA0 hG ⊢
      clear hGe
      go_loopw [11] (fun v wr => ∃ i : Nat, i ≤ k + 1 ∧ v = .int .i64 i ∧ Arr wr G 5 (((((ones i : Nat) : Int)) :: List.replicate (k + 1) 0).map (Value.int .u8)) ∧ Below w.heap.size w wr) (fun v _ => 9 - (intOf v).toNat)
      case atStart => exact ⟨0, by omega, rfl, HA0.out⟩
      case round =>
        obtain ⟨i, hik, rfl, hA, hbel⟩ := hrel
        clear HA0
        by_cases hlt : i ≤ k
        · have c0 : wr.cell? ⟨G, 0, none⟩ = some (.int .u8 ((ones i : Nat) : Int)) := hA.cell 0
          have f0 := hA.frozen 0
          have hor := or_ones i (by omega)
          have HH := Lib.hid (And.intro hA (And.intro hbel hor))
          clear hA hbel hor
          go_wp2
          go_region
          all_goals
            go_wp2
            go_roundw
            case rel =>
              refine ⟨i + 1, by omega, by go_num, ?_, (HH.out.2.1.setCell hG _).drew⟩
              have := HH.out.1.set 0 (.int .u8 ((ones (i + 1) : Nat) : Int))
              rw [HH.out.2.2]
              exact this
            case measure => simp [intOf]; omega
        · obtain rfl : i = k + 1 := by omega
          clear hlt hik
          have hA' := hA
          have hA2 : Arr wr G 5 ((widL (k + 1) n 0).map (Value.int .u8)) := by rw [widL_zero]; exact hA
          have HA2 := Lib.hid (And.intro hA2 hbel)
          clear hA hA' hA2 hbel
          obtain ⟨K, hK⟩ : ∃ K, k + 1 = K := ⟨_, rfl⟩
          have hKi : (k : Int) + 1 = (K : Int) := by omega
          have hnK : n < 2 ^ (7 * K) := by have := HN.out.2.2 h8k; rw [← hK, show 7 * (k + 1) = 7 + 7 * k by omega]; exact this
          have hz : n / 256 ^ K = 0 := by
            refine Nat.div_eq_of_lt (Nat.lt_of_lt_of_le hnK ?_)
            rw [show (256 : Nat) = 2 ^ 8 from rfl, ← Nat.pow_mul]
            exact Nat.pow_le_pow_right (by omega) (by omega)
          have hrd : rd (lft (str (rowk K n)) 0) = none := by
            have h1 := rd_rowk K n [] (by omega) (Nat.lt_of_lt_of_le hnK (Nat.pow_le_pow_right (by omega) (by unfold lim; split <;> omega)))
            rw [if_pos ⟨by omega, hnK⟩, List.append_nil] at h1
            rw [show lft (str (rowk K n)) 0 = rowk K n from by simp [lft, str]]
            exact h1
          have HZ := Lib.hid (And.intro hz hrd)
          rw [hK] at HA2
          clear hz hrd hnK
          go_wp2
          rw [hKi]
          go_loopw [13, 12] (fun v x wr => ∃ z : Nat, z ≤ K ∧ v = .int .i64 z ∧ x = .int .u64 ((n / 256 ^ (K - z) : Nat) : Int) ∧ Arr wr G 5 ((widL K n (K - z)).map (Value.int .u8)) ∧ Below w.heap.size w wr) (fun v _ _ => (intOf v).toNat)
          case atStart => exact ⟨K, Nat.le_refl _, rfl, by simp, by rw [Nat.sub_self]; exact HA2.out.1, HA2.out.2⟩
          case round =>
            obtain ⟨z, hzK, rfl, rfl, hA, hbel⟩ := hrel
            clear HA2
            obtain ⟨t, ht⟩ : ∃ t, K - z = t := ⟨_, rfl⟩
            have hm64 : n / 256 ^ t < 2 ^ 64 := Nat.lt_of_le_of_lt (Nat.div_le_self _ _) hn
            have hdv : n / 256 ^ (t + 1) = n / 256 ^ t / 256 := by rw [Nat.pow_succ, Nat.div_div_eq_div_mul]
            have hws := widL_set K n t
            obtain ⟨m0, hm0⟩ : ∃ m0, n / 256 ^ t = m0 := ⟨_, rfl⟩
            rw [ht] at hA ⊢
            rw [hm0] at hm64 hdv hws ⊢
            by_cases hz0 : 1 ≤ z
            · have hzt : K - t = z := by omega
              rw [hzt] at hws
              have hws2 := hws (by omega)
              have c1 := hA.int (j := z) (by rw [widL_len]; omega)
              have f1 := hA.frozen z
              have ht1 : K - (z - 1) = t + 1 := by omega
              have HH := Lib.hid (And.intro hA (And.intro hbel (And.intro hdv (And.intro hws2 ht1))))
              clear hA hbel hdv hws hws2 hm0 ht hzt ht1
              go_wp2
              go_roundw
              case rel =>
                refine ⟨z - 1, by omega, by rw [show ((z - 1 : Nat) : Int) = (z : Int) - 1 by omega], by rw [HH.out.2.2.2.2, HH.out.2.2.1]; simp, ?_, HH.out.2.1.setCell hG _⟩
                have := HH.out.1.setInt z (↑m0 % 256)
                rw [HH.out.2.2.2.2, ← HH.out.2.2.2.1]
                simpa using this
              case measure => simp [intOf]; omega
            · obtain rfl : z = 0 := by omega
              obtain rfl : t = K := by omega
              have hm00 : m0 = 0 := by rw [← hm0]; exact HZ.out.1
              subst hm00
              have c1 := hA.int (j := 0) (by rw [widL_len]; omega)
              rw [widL_head t n] at c1
              have f1 := hA.frozen 0
              have hoz := or_zero8 (ones t) (ones_le t)
              have hA3 : Arr (wr.setCell ⟨G, 0, none⟩ (.int .u8 ((ones t : Nat) : Int))) G 5 (Lib.byteCells (rowk t n)) := by
                have := hA.setInt 0 ((ones t : Nat) : Int)
                rw [widL_back, widL_all t n HZ.out.1] at this
                exact this
              have hcv := conv_all _ G (k + 2) (rowk t n) (by rw [rowk_len]; omega) hA3
              have HH := Lib.hid (hbel.setCell (p := ⟨G, 0, none⟩) hG (.int .u8 ((ones t : Nat) : Int)))
              clear hA hA3 hbel hdv hws hm0 ht hz0
              go_wp2_with fail
              clear hcv hoz
              obtain ⟨wz, hwz⟩ : ∃ wz, wr.setCell ⟨G, 0, none⟩ (.int .u8 ((ones t : Nat) : Int)) = wz := ⟨_, rfl⟩
              rw [hwz] at HH ⊢
              clear hwz
              refine (newReader_any (str (rowk t n)) _).mono ?_
              rintro e wy ⟨rfl, hw⟩
              have HY : Hid (RdA wy wz.heap.size (str (rowk t n)) 0 false ∧ Below w.heap.size w wy ∧ w.heap.size ≤ wz.heap.size) := by rw [← hw]; exact ⟨Arr.new wz 57 _, fb_alloc HH.out _, HH.out.size⟩
              clear hw
              go_wp2_with fail
              refine (num_bad HY.out.1 (by rw [str_size, rowk_len]; omega) (by omega) HZ.out.2).mono ?_
              rintro e wx ⟨rfl, r1, m1⟩
              have HX := Lib.hid (And.intro r1 (bel_moved HY.out.2.1 m1 HY.out.2.2))
              clear r1 m1
              go_wp2_with fail
              refine (ok_no wz.heap.size _ _ _ HX.out.1).mono ?_
              rintro e w' ⟨rfl, rfl⟩
              go_wp2_with fail
              refine (works_any _).mono ?_
              rintro e w9 ⟨rfl, hb9⟩
              have HB9 := Lib.hid hb9
              clear hb9
              go_wp2
              go_ret
              exact ⟨rfl, fb_call HX.out.2 HB9.out⟩
    · go_wp2_with (go_at_call 27; refine (behind_any n1.toNat _ (by omega)).mono ?_; rintro e w' ⟨rfl, rfl⟩; rw [hhead])
      refine (works_any _).mono ?_
      rintro e w9 ⟨rfl, hb9⟩
      have HB9 := Lib.hid hb9
      clear hb9
      go_wp2
      go_ret
      exact ⟨rfl, fb_call HP.out HB9.out⟩

theorem wireLeast_own : ownKnob Try.prog.godebug = none := by kernel_rfl
theorem wireLeast_laidOut : laidOutB Try.prog = true := by kernel_rfl

set_option maxHeartbeats 1000000 in
set_option maxRecDepth 100000 in
theorem wireLeast_lifted (os : Os) (started : os.Started) (H : Type) (enc : TypeId × Value → H) :
    ReturnsInHanded {} Try.checked os 7 .any (Rows.wireLeastSpec.pre6 enc Try.prog Try.f7 Rows.wireLeastRow.domain false) (Rows.wireLeastSpec.post enc Try.prog Try.f7 false true false false) := by
  refine returnsInHanded_of_change (C := Try.checked) wireLeast_own started (by kernel_rfl) Try.func7
    (ChangeSpec.witness6 (enc := enc) (C := Try.checked) false ⟨#[], #[.string ByteArray.empty, .int .u64 0], []⟩ 8 (by kernel_rfl) (by kernel_rfl) (by kernel_rfl) (by kernel_rfl)) ?_
  intro W base args ds gs before hval0 hW hcnd _
  have hval : ∀ (j : Nat) t v, Try.f7.params[j]? = some t → args[j]? = some v → Value.okWide Try.prog W .any base t v := hval0
  have hW' := hW
  obtain ⟨p, q, hA0, hV, rfl, hfz, hnd⟩ := hW
  have hA : DataW.TrodAll enc Try.prog W 0 (fun _ => true) true Try.f7.params.toList args.toList ds p := hA0
  rw [Try.params7] at hA hval
  obtain ⟨v0, vs0, d0, ds0, p0, q0, hargs, rfl, rfl, h0, r0⟩ := trodAll_cons hA
  obtain ⟨v1, vs1, d1, ds1, p1, q1, rfl, rfl, rfl, h1, r1⟩ := trodAll_cons r0
  obtain ⟨rfl, rfl, rfl⟩ := trodAll_nil r1
  obtain rfl : args = #[v0, v1] := by cases args; simp_all
  obtain ⟨rfl, rfl⟩ := trodVars_none hV
  have k0 := h0
  have lt0 : ∀ x ∈ p0, x.block < W.heap.size := by obtain ⟨m, hm⟩ := k0; exact DataW.trod_lt m _ _ _ hm
  obtain ⟨s, rfl, es1, es2, wss⟩ := open_string Try.underlying9 (hval 0 9 v0 rfl rfl) h0
  unfold maxLen at wss
  have k1 := h1
  have lt1 : ∀ x ∈ p1, x.block < W.heap.size := by obtain ⟨m, hm⟩ := k1; exact DataW.trod_lt m _ _ _ hm
  obtain ⟨xn, rfl, en1, en2, wfn⟩ := open_int Try.underlying22 (hval 1 22 v1 rfl rfl) h1
  have bn := wf_u64a wfn
  obtain ⟨n, rfl⟩ := Int.eq_ofNat_of_zero_le bn.1
  clear hA0 hval0
  refine (wireLeast_walk s n W (by omega) (by omega)).mono fun e W' ⟨he, bel⟩ => ?_
  subst he
  exact ⟨_, rfl, _, _, _, [], _, [], hW', trodAll_mk1 (shut_bool Try.underlying4 _), (trodAll_cons_mk (Below.trod wireLeast_laidOut (by kernel_rfl) (of_decide_eq_true (by kernel_rfl)) k0 bel lt0) (trodAll_cons_mk (Below.trod wireLeast_laidOut (by kernel_rfl) (of_decide_eq_true (by kernel_rfl)) k1 bel lt1) trodAll_mk0)), rfl, bel.frame _, fun h => by cases h⟩

theorem wireLeast_over : Rows.wireLeastRow.holds Try.pinned (OpenSpec.ofChange Rows.wireLeastSpec) :=
  OpenClaim.holds_of_wide 7 Try.f7 rfl rfl rfl rfl rfl rfl rfl ⟨rfl, rfl, rfl, rfl, rfl⟩ rfl rfl rfl rfl rfl (by kernel_rfl) Try.func7 (by kernel_rfl)
    (of_decide_eq_true (by kernel_rfl)) (by unfold Func.isWrapper; first | (rw [if_pos (by decide +kernel)]; kernel_rfl) | (rw [if_neg (by decide +kernel)]; exact ⟨rfl, rfl⟩))
    (fun os started H enc _ => wireLeast_lifted os started H enc)

/-- The statement. -/
theorem wireLeast_holds : Rows.WireLeastSaid := wireLeast_over
#print axioms wireLeast_holds
end Go.Proofs.Ytjfdmbbhpabgnaa
