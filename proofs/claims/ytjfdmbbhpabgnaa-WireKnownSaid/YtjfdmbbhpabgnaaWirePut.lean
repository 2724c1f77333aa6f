/- Walks of wire.PutNum, PutInt, PutText. No condition. -/
import Derived.Test.YtjfdmbbhpabgnaaWireRef
import Derived.Test.YtjfdmbbhpabgnaaArr
import Derived.Lib.BufferWrite
import Derived.Lib.SlBuf
import Derived.Laws.CopyOwn
import Derived.Deep.RegionLaw
import Derived.Deep.WholeRow
import Derived.IntWalk
namespace Go.Proofs.Ytjfdmbbhpabgnaa
open Go.RowKit

/-- The array while the bytes go in. -/
def mid (k n i : Nat) : List Int := (List.range 9).map (fun j => if k < j + i ∧ j ≤ k then ((n / 256 ^ (k - j) % 256 : Nat) : Int) else 0)
theorem mid_len (k n i : Nat) : (mid k n i).length = 9 := by simp [mid]
theorem mid_set (k n i : Nat) (hi : i < k) : (mid k n i).set (k - i) ((n / 256 ^ i % 256 : Nat) : Int) = mid k n (i + 1) := by
  apply List.ext_getElem
  · simp [mid]
  · intro j h1 h2
    simp only [List.getElem_set, mid, List.getElem_map, List.getElem_range]
    by_cases h : k - i = j
    · subst h
      rw [if_pos rfl, if_pos (by omega), show k - (k - i) = i by omega]
    · rw [if_neg h]
      by_cases h3 : k < j + i ∧ j ≤ k
      · rw [if_pos h3, if_pos (by omega)]
      · rw [if_neg h3, if_neg (by omega)]

theorem be_get (k n j : Nat) (h : j < k) : (be k n)[j]'(by rw [be_len]; exact h) = UInt8.ofNat (n / 256 ^ (k - 1 - j) % 256) := by
  induction k generalizing n j with
  | zero => omega
  | succ k ih =>
    simp only [be]
    by_cases hj : j < k
    · rw [List.getElem_append_left (by rw [be_len]; exact hj), ih _ _ hj, Nat.div_div_eq_div_mul, ← Nat.pow_succ', show (k - 1 - j).succ = k + 1 - 1 - j by omega]
    · obtain rfl : j = k := by omega
      rw [List.getElem_append_right (by rw [be_len]; omega)]
      simp
theorem headv (k m : Nat) (hk : k ≤ 8) (h : m < 2 ^ (lim k - 8 * k)) : bits BinOp.or IntKind.u8 ((m : Int) % 256) (bits BinOp.xor IntKind.u8 IntKind.u8.max (255 / 2 ^ k)) = ((ones k + m : Nat) : Int) := by
  have hd : ∀ k : Fin 9, ∀ m : Fin 256, m.val < 2 ^ (lim k.val - 8 * k.val) → bits BinOp.or IntKind.u8 ((m.val : Int) % 256) (bits BinOp.xor IntKind.u8 IntKind.u8.max (255 / 2 ^ k.val)) = ((ones k.val + m.val : Nat) : Int) := by decide +kernel
  exact hd ⟨k, by omega⟩ ⟨m, by have := (lead_ones k m hk h).1; omega⟩ h
/-- The array behind the loop and the head's store. -/
theorem mid_row (k n j : Nat) (hk : k ≤ 8) (h : n < 2 ^ lim k) (hj : j < k + 1) : ((mid k n k).set 0 ((ones k + n / 256 ^ k : Nat) : Int))[j]'(by rw [List.length_set, mid_len]; omega) = (((rowk k n)[j]'(by rw [rowk_len]; exact hj)).toNat : Int) := by
  have h2 := (lead_ones k _ hk (top_lt k n hk h)).1
  cases j with
  | zero =>
    simp only [rowk, List.getElem_set, List.getElem_cons_zero, if_true]
    generalize n / 256 ^ k = q at h2 ⊢
    simp; omega
  | succ j =>
    simp only [List.getElem_set, rowk, List.getElem_cons_succ, mid, List.getElem_map, List.getElem_range]
    rw [if_neg (by omega), if_pos (by omega), be_get k n j (by omega), show k - (j + 1) = k - 1 - j by omega]
    simp

theorem infoU8 : (Try.prog.info? 5).map (fun i => (i.zero, i.size, i.bytes)) = some (some (.int .u8 0), 1, 1) := by kernel_rfl
theorem infoU8s : (Try.prog.info? 5).map (·.size) = some 1 := by kernel_rfl
theorem conv_all (w : World) (g N : Nat) (l : List UInt8) (hN : l.length = N) (hA : Arr w g 5 (Lib.byteCells l)) :
    (convert 45 9 (.slice (some ⟨g, 0, none⟩) N N)).run Try.prog w = .ok (.string (str l)) w := by
  subst hN
  refine run_convert_bytes_back _ _ _ _ _ _ l Try.underlying45 Try.underlying5 Try.underlying9 (fun j hj => ?_)
  rw [show (⟨g, 0, none⟩ : Addr).add j = ⟨g, j, none⟩ by simp [Addr.add]; omega, hA.cell j]
  simp [Lib.byteCells, hj]
theorem splice_put (s : ByteArray) (i : Nat) (r : List UInt8) (hr : r.length = 1 + i) : splice (Lib.byteCells s.data.toList ++ List.replicate (1 + i) (Value.int .u8 0)) s.size (Lib.byteCells r) = Lib.byteCells (s.data.toList ++ r) := by
  have hsl : (Lib.byteCells s.data.toList).length = s.size := by rw [Lib.byteCells_length, Array.length_toList]; rfl
  unfold splice
  rw [List.take_append_of_le_length (by omega), List.take_of_length_le (by omega), List.drop_of_length_le, Lib.byteCells_append]
  · simp
  · rw [List.length_append, hsl, Lib.byteCells_length, List.length_replicate]; omega
theorem str_back (s : ByteArray) (r : List UInt8) : str (s.data.toList ++ r) = s ++ str r := by
  apply ByteArray.ext; simp [str]
set_option maxHeartbeats 2000000 in
set_option maxRecDepth 100000 in
theorem put_any (s : ByteArray) (n : Nat) (w : World) (hs : s.size ≤ 1000000) (hn : n < 2 ^ 64) :
    Calls Try.prog 9 #[.string s, .int .u64 n] w fun e w' => e = .returned (.string (s ++ str (row n))) ∧ Below w.heap.size w w' := by
  have h8 := srt_le n
  have hlt64 := srt_lt n hn
  obtain ⟨k, hk⟩ : ∃ k, srt n = k := ⟨_, rfl⟩
  rw [hk] at h8 hlt64
  have HK := Lib.hid (And.intro hk hlt64)
  clear hlt64
  go_enter Try.func9, Try.ntmps9
  go_wp2_with (go_at_call 28; refine (sort_any w.heap.size n _ (by go_simp) hn).mono ?_; rintro e w' ⟨rfl, rfl⟩; rw [hk])
  clear hk
  have a0 := Arr.new w 22 [.int .u64 n]
  have a1 := Arr.new (w.alloc (.cells #[.int .u64 n] 22)) 53 (List.replicate 9 (.int .u8 0))
  have b1 : Below w.heap.size w ((w.alloc (.cells #[.int .u64 n] 22)).alloc (.cells #[.int .u8 0, .int .u8 0, .int .u8 0, .int .u8 0, .int .u8 0, .int .u8 0, .int .u8 0, .int .u8 0, .int .u8 0] 53)) := fb_alloc (fb_alloc (Below.refl _ _) _) _
  have HA := Lib.hid (And.intro (Arr.alloc a0 (.cells #[.int .u8 0, .int .u8 0, .int .u8 0, .int .u8 0, .int .u8 0, .int .u8 0, .int .u8 0, .int .u8 0, .int .u8 0] 53)) (And.intro a1 b1))
  clear a0 a1 b1
  go_loopw [14] (fun v wr => ∃ i : Nat, i ≤ k ∧ v = .int .i64 i ∧ Arr wr w.heap.size 22 [.int .u64 ((n / 256 ^ i : Nat) : Int)] ∧ Arr wr (w.heap.size + 1) 53 ((mid k n i).map (Value.int .u8)) ∧ Below w.heap.size w wr) (fun v _ => k - (intOf v).toNat)
  case atStart =>
    refine ⟨0, by omega, rfl, by simpa using HA.out.1, ?_, HA.out.2.2⟩
    have := HA.out.2.1
    simp only [World.size_alloc] at this
    rw [show (mid k n 0) = List.replicate 9 0 from by
      apply List.ext_getElem
      · simp [mid]
      · intro j h1 h2
        simp only [mid, List.getElem_map, List.getElem_range, List.getElem_replicate]
        rw [if_neg (by omega)]]
    simpa using this
  case round =>
    obtain ⟨i, hi, rfl, h0, h1, hbel⟩ := hrel
    have hm64 : n / 256 ^ i < 2 ^ 64 := Nat.lt_of_le_of_lt (Nat.div_le_self _ _) hn
    have hdv : n / 256 ^ (i + 1) = n / 256 ^ i / 256 := by rw [Nat.pow_succ, Nat.div_div_eq_div_mul]
    have hms := mid_set k n i
    obtain ⟨m, hm⟩ : ∃ m, n / 256 ^ i = m := ⟨_, rfl⟩
    rw [hm] at hm64 hdv hms h0
    have c0 : wr.cell? ⟨w.heap.size, 0, none⟩ = some (.int .u64 m) := h0.cell 0
    have f0 := h0.frozen 0
    have HM := Lib.hid (And.intro h0 (And.intro h1 (And.intro hbel (And.intro hms hdv))))
    clear hdv hms hbel h0
    by_cases hlt : i < k
    · have c1 := h1.int (j := k - i) (by rw [mid_len]; omega)
      have f1 := h1.frozen (k - i)
      clear h1 hm
      go_wp2
      go_roundw
      case rel =>
        obtain ⟨h0, h1, hbel, hms, hdv⟩ := HM.out
        refine ⟨i + 1, by omega, by go_num, ?_, ?_, (hbel.setCell (by simp) _).setCell (by simp) _⟩
        · have := (h0.set_other ⟨w.heap.size + 1, k - i, none⟩ (.int .u8 (↑m % 256)) (by simp)).set 0 (.int .u64 (↑m / 256))
          rw [hdv]
          simpa using this
        · have := (h1.setInt (k - i) (↑m % 256)).set_other ⟨w.heap.size, 0, none⟩ (.int .u64 (↑m / 256)) (by simp)
          rw [← hms hlt]
          simpa using this
      case measure => simp [intOf]; omega
    · obtain rfl : i = k := by omega
      have c1 := h1.int (j := 0) (by rw [mid_len]; omega)
      have f1 := h1.frozen 0
      have hv := headv i m h8 (by have := top_lt i n h8 HK.out.2; rw [hm] at this; exact this)
      have hmr := mid_row i n
      have hsg : IntKind.u8.signed = false := rfl
      have HV := Lib.hid (And.intro hv (And.intro hmr hm))
      clear hlt hi h1 hm hv hmr
      go_wp2
      go_region
      all_goals
        rw [HV.out.1]
        have hA : Arr ((wr.setCell ⟨w.heap.size + 1, 0, none⟩ (.int .u8 ((ones i + m : Nat) : Int))).drew) (w.heap.size + 1) 53 (((mid i n i).set 0 ((ones i + m : Nat) : Int)).map (Value.int .u8)) := HM.out.2.1.setInt 0 _
        have hB : Below w.heap.size w ((wr.setCell ⟨w.heap.size + 1, 0, none⟩ (.int .u8 ((ones i + m : Nat) : Int))).drew) := (HM.out.2.2.1.setCell (by simp) _).drew
        generalize (wr.setCell ⟨w.heap.size + 1, 0, none⟩ (.int .u8 ((ones i + m : Nat) : Int))).drew = W1 at hA hB
        have hlt1 := hA.lt
        have hmk : (Instr.makeSlice 45 (.int .i64 (↑s.size + 1 + ↑i)) (.int .i64 (↑s.size + 1 + ↑i))).run Try.prog W1 = .ok (.slice (some ⟨W1.heap.size, 0, none⟩) (s.size + 1 + i) (s.size + 1 + i)) (W1.alloc (.cells (List.replicate (s.size + 1 + i) (Value.int .u8 0)).toArray 5)) := by
          have := run_make_arr (P := Try.prog) 45 5 (.int .u8 0) 1 Try.underlying45 infoU8 rfl (s.size + 1 + i) (by omega) (by omega) W1
          simpa using this
        have hcp : (Builtin.copy_ #[45, 9] 3 #[.slice (some ⟨W1.heap.size, 0, none⟩) (s.size + 1 + i) (s.size + 1 + i), .string s]).run Try.prog (W1.alloc (.cells (Array.replicate (s.size + 1 + i) (Value.int .u8 0)) 5)) =
            .ok (goInt s.size) (W1.alloc (.cells (Lib.byteCells s.data.toList ++ List.replicate (1 + i) (Value.int .u8 0)).toArray 5)) := by
          rw [Lib.run_copy_row_string (P := Try.prog) _ 45 9 3 5 W1.heap.size 0 _ _ s _ 5 Try.underlying45 infoU8s (heap_alloc_new _ _) (by omega) (by simp; omega), World.setRow_alloc_new]
          rw [show s.size + 1 + i = s.size + (1 + i) by omega]
          simp
        have HH := Lib.hid (And.intro hA hB)
        clear hA hB
        go_wp2
        have hWB : Below w.heap.size w (W1.alloc (.cells (Lib.byteCells s.data.toList ++ List.replicate (1 + i) (Value.int .u8 0)).toArray 5)) := fb_alloc HH.out.2 _
        have hG : (W1.alloc (.cells (Lib.byteCells s.data.toList ++ List.replicate (1 + i) (Value.int .u8 0)).toArray 5)).heap[W1.heap.size]? = some (.cells (Lib.byteCells s.data.toList ++ List.replicate (1 + i) (Value.int .u8 0)).toArray 5 (0, 0)) := heap_alloc_new _ _
        have hsrc : ∀ j v, (Lib.byteCells (rowk i n))[j]? = some v → (W1.alloc (.cells (Lib.byteCells s.data.toList ++ List.replicate (1 + i) (Value.int .u8 0)).toArray 5)).cell? ((⟨w.heap.size + 1, 0, none⟩ : Addr).add j) = some v := by
          intro j v hj
          have hj1 : j < i + 1 := by
            have := (List.getElem?_eq_some_iff.1 hj).1
            simpa [Lib.byteCells, rowk_len] using this
          have hadd : (⟨w.heap.size + 1, 0, none⟩ : Addr).add j = ⟨w.heap.size + 1, j, none⟩ := by simp [Addr.add]; omega
          rw [hadd, (Arr.alloc HH.out.1 _).cell j, ← hj]
          have h9 : j < ((mid i n i).set 0 ((ones i + m : Nat) : Int)).length := by rw [List.length_set, mid_len]; omega
          rw [List.getElem?_map, List.getElem?_eq_getElem h9]
          have := HV.out.2.1 j h8 HK.out.2 hj1
          simp only [HV.out.2.2] at this
          rw [this]
          simp [Lib.byteCells, hj1, rowk_len]
        generalize hWW : W1.alloc (.cells (Lib.byteCells s.data.toList ++ List.replicate (1 + i) (Value.int .u8 0)).toArray 5) = W2 at hWB hG hsrc ⊢
        have HG := Lib.hid (And.intro hWB (And.intro hG hsrc))
        clear hWB hG hsrc hWW hcp hmk
        have q1 : (s.size : Int) ≤ (s.size : Int) + 1 + (i : Int) := by omega
        have q2 : ¬ (s.size + 1 + i = s.size) := by omega
        have q4 : (1 : Int) + (i : Int) ≤ 9 := by omega
        have q5 : (0 : Int) ≤ 1 + (i : Int) := by omega
        have q3 : IntKind.i64.wrap (1 + (i : Int)) = 1 + (i : Int) := IntWalk.i64_in _ (by omega)
        have hsl := Lib.hid (show s.data.toList.length = s.size by rw [Array.length_toList]; rfl)
        go_region_law (refine step_copy_splice rfl (.tmp 45) (.tmp 48) 45 45 rfl 5 Try.underlying45 infoU8s (some ⟨W1.heap.size, s.size, none⟩) (some ⟨w.heap.size + 1, 0, none⟩) (s.size + 1 + i - s.size) (s.size + 1 + i - s.size) ((1 : Int) + i).toNat 9 (by simp [Act.eval, Act.put]) (by simp [Act.eval, Act.put]) W1.heap.size s.size _ 5 HG.out.2.1 (Lib.byteCells (rowk i n)) (by rw [Lib.byteCells_length, rowk_len]; show _ = min _ _; omega) (fun _ => ⟨rfl, _, rfl, HG.out.2.2⟩) (by rw [Lib.byteCells_length, rowk_len, List.length_append, Lib.byteCells_length, List.length_replicate, hsl.out]; omega) (Lib.byteCells_one _) w.heap.size w (bel_drew HG.out.1) (by omega) ?_; intro w4 hg4 hb4)
        all_goals
          have hg5 := hg4.out
          rw [splice_put s i _ (by rw [rowk_len]; omega)] at hg5
          have hcv := conv_all w4 W1.heap.size (s.size + 1 + i) (s.data.toList ++ rowk i n) (by rw [List.length_append, rowk_len, hsl.out]; omega) hg5
          rw [str_back, show rowk i n = row n by unfold row; rw [HK.out.1]] at hcv
          have HB4 := Lib.hid hb4
          clear hg5 hb4 hg4 q1 q2 q3 q4 q5
          go_wp2
          go_ret
          exact ⟨rfl, HB4.out⟩
end Go.Proofs.Ytjfdmbbhpabgnaa
