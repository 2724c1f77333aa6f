/- The chapter's examples, and others. No condition. -/
import Derived.Test.YtjfdmbbhpabgnaaWireWorks
import Derived.ChangeMaps5
namespace Go.Proofs.Ytjfdmbbhpabgnaa
open Go.ChangeMaps Go.ChangeShapes Go.WideShapes Go.ChangeAt Go.RowKit


/-- The first table's rows, as they lie. -/
def Tbl1 (W : World) (T : Nat) : Prop := ∀ k, k < 9 → ∃ n : Nat, n < 2 ^ 64 ∧ W.cell? ⟨T, k * 2, none⟩ = some (.int .u64 n) ∧ W.cell? ⟨T, k * 2 + 1, none⟩ = some (.string (str (row n)))
def Tbl2 (W : World) (T : Nat) : Prop := ∀ k, k < 7 → ∃ i : Int, (-9223372036854775808 ≤ i ∧ i ≤ 9223372036854775807) ∧ W.cell? ⟨T, k * 2, none⟩ = some (.int .i64 i) ∧ W.cell? ⟨T, k * 2 + 1, none⟩ = some (.string (str (row (zz i))))
def Tbl3 (W : World) (T : Nat) : Prop := ∀ k, k < 8 → ∃ s : ByteArray, s.size ≤ 100 ∧ rd (lft s 0) = none ∧ W.cell? ⟨T, k, none⟩ = some (.string s)
theorem Tbl1.below {W W' : World} {T n : Nat} (h : Tbl1 W T) (hT : T < n) (hb : Below n W W') : Tbl1 W' T := fun k hk => by
  obtain ⟨n, h1, h2, h3⟩ := h k hk
  exact ⟨n, h1, (hb.cell (p := ⟨T, _, none⟩) hT).trans h2, (hb.cell (p := ⟨T, _, none⟩) hT).trans h3⟩
theorem Tbl2.below {W W' : World} {T n : Nat} (h : Tbl2 W T) (hT : T < n) (hb : Below n W W') : Tbl2 W' T := fun k hk => by
  obtain ⟨n, h1, h2, h3⟩ := h k hk
  exact ⟨n, h1, (hb.cell (p := ⟨T, _, none⟩) hT).trans h2, (hb.cell (p := ⟨T, _, none⟩) hT).trans h3⟩
theorem Tbl3.below {W W' : World} {T n : Nat} (h : Tbl3 W T) (hT : T < n) (hb : Below n W W') : Tbl3 W' T := fun k hk => by
  obtain ⟨n, h1, h2, h3⟩ := h k hk
  exact ⟨n, h1, h2, (hb.cell (p := ⟨T, _, none⟩) hT).trans h3⟩
set_option maxRecDepth 100000 in
theorem known1 (w : World) : Tbl1 (w.alloc (.cells #[.int .u64 0, .string ⟨#[0]⟩, .int .u64 127, .string ⟨#[127]⟩, .int .u64 128, .string ⟨#[128, 128]⟩, .int .u64 300, .string ⟨#[129, 44]⟩, .int .u64 16383, .string ⟨#[191, 255]⟩, .int .u64 16384, .string ⟨#[192, 64, 0]⟩, .int .u64 72057594037927935, .string ⟨#[254, 255, 255, 255, 255, 255, 255, 255]⟩, .int .u64 72057594037927936, .string ⟨#[255, 1, 0, 0, 0, 0, 0, 0, 0]⟩, .int .u64 18446744073709551615, .string ⟨#[255, 255, 255, 255, 255, 255, 255, 255, 255]⟩] 47)) w.heap.size := fun k hk => by
  match k, hk with
  | 0, _ => exact ⟨0, by decide, by go_simp, by rw [show str (row 0) = ⟨#[0]⟩ from by decide +kernel]; go_simp⟩
  | 1, _ => exact ⟨127, by decide, by go_simp, by rw [show str (row 127) = ⟨#[127]⟩ from by decide +kernel]; go_simp⟩
  | 2, _ => exact ⟨128, by decide, by go_simp, by rw [show str (row 128) = ⟨#[128, 128]⟩ from by decide +kernel]; go_simp⟩
  | 3, _ => exact ⟨300, by decide, by go_simp, by rw [show str (row 300) = ⟨#[129, 44]⟩ from by decide +kernel]; go_simp⟩
  | 4, _ => exact ⟨16383, by decide, by go_simp, by rw [show str (row 16383) = ⟨#[191, 255]⟩ from by decide +kernel]; go_simp⟩
  | 5, _ => exact ⟨16384, by decide, by go_simp, by rw [show str (row 16384) = ⟨#[192, 64, 0]⟩ from by decide +kernel]; go_simp⟩
  | 6, _ => exact ⟨72057594037927935, by decide, by go_simp, by rw [show str (row 72057594037927935) = ⟨#[254, 255, 255, 255, 255, 255, 255, 255]⟩ from by decide +kernel]; go_simp⟩
  | 7, _ => exact ⟨72057594037927936, by decide, by go_simp, by rw [show str (row 72057594037927936) = ⟨#[255, 1, 0, 0, 0, 0, 0, 0, 0]⟩ from by decide +kernel]; go_simp⟩
  | 8, _ => exact ⟨18446744073709551615, by decide, by go_simp, by rw [show str (row 18446744073709551615) = ⟨#[255, 255, 255, 255, 255, 255, 255, 255, 255]⟩ from by decide +kernel]; go_simp⟩
set_option maxRecDepth 100000 in
theorem known2 (w : World) : Tbl2 (w.alloc (.cells #[.int .i64 0, .string ⟨#[0]⟩, .int .i64 (-1), .string ⟨#[1]⟩, .int .i64 1, .string ⟨#[2]⟩, .int .i64 (-64), .string ⟨#[127]⟩, .int .i64 64, .string ⟨#[128, 128]⟩, .int .i64 (-9223372036854775808), .string ⟨#[255, 255, 255, 255, 255, 255, 255, 255, 255]⟩, .int .i64 9223372036854775807, .string ⟨#[255, 255, 255, 255, 255, 255, 255, 255, 254]⟩] 49)) w.heap.size := fun k hk => by
  match k, hk with
  | 0, _ => exact ⟨0, by decide, by go_simp, by rw [show str (row (zz 0)) = ⟨#[0]⟩ from by decide +kernel]; go_simp⟩
  | 1, _ => exact ⟨(-1), by decide, by go_simp, by rw [show str (row (zz (-1))) = ⟨#[1]⟩ from by decide +kernel]; go_simp⟩
  | 2, _ => exact ⟨1, by decide, by go_simp, by rw [show str (row (zz 1)) = ⟨#[2]⟩ from by decide +kernel]; go_simp⟩
  | 3, _ => exact ⟨(-64), by decide, by go_simp, by rw [show str (row (zz (-64))) = ⟨#[127]⟩ from by decide +kernel]; go_simp⟩
  | 4, _ => exact ⟨64, by decide, by go_simp, by rw [show str (row (zz 64)) = ⟨#[128, 128]⟩ from by decide +kernel]; go_simp⟩
  | 5, _ => exact ⟨(-9223372036854775808), by decide, by go_simp, by rw [show str (row (zz (-9223372036854775808))) = ⟨#[255, 255, 255, 255, 255, 255, 255, 255, 255]⟩ from by decide +kernel]; go_simp⟩
  | 6, _ => exact ⟨9223372036854775807, by decide, by go_simp, by rw [show str (row (zz 9223372036854775807)) = ⟨#[255, 255, 255, 255, 255, 255, 255, 255, 254]⟩ from by decide +kernel]; go_simp⟩
set_option maxRecDepth 100000 in
theorem known3 (w : World) : Tbl3 (w.alloc (.cells #[.string ⟨#[]⟩, .string ⟨#[128, 127]⟩, .string ⟨#[128]⟩, .string ⟨#[192, 0, 5]⟩, .string ⟨#[192, 63, 255]⟩, .string ⟨#[254, 1, 255, 255, 255, 255, 255, 255]⟩, .string ⟨#[255, 0, 255, 255, 255, 255, 255, 255, 255]⟩, .string ⟨#[255, 1, 0]⟩] 9)) w.heap.size := fun k hk => by
  match k, hk with
  | 0, _ => exact ⟨⟨#[]⟩, by decide, by decide +kernel, by go_simp⟩
  | 1, _ => exact ⟨⟨#[128, 127]⟩, by decide, by decide +kernel, by go_simp⟩
  | 2, _ => exact ⟨⟨#[128]⟩, by decide, by decide +kernel, by go_simp⟩
  | 3, _ => exact ⟨⟨#[192, 0, 5]⟩, by decide, by decide +kernel, by go_simp⟩
  | 4, _ => exact ⟨⟨#[192, 63, 255]⟩, by decide, by decide +kernel, by go_simp⟩
  | 5, _ => exact ⟨⟨#[254, 1, 255, 255, 255, 255, 255, 255]⟩, by decide, by decide +kernel, by go_simp⟩
  | 6, _ => exact ⟨⟨#[255, 0, 255, 255, 255, 255, 255, 255, 255]⟩, by decide, by decide +kernel, by go_simp⟩
  | 7, _ => exact ⟨⟨#[255, 1, 0]⟩, by decide, by decide +kernel, by go_simp⟩

/-- What lies while a round runs: the row's copy in block B, the reader in block A. -/
def Kn (W0 : World) (v : Value) (s : ByteArray) (B A at_ : Nat) (W : World) : Prop := (W.cell? ⟨B, 0, none⟩ = some v ∧ W.cell? ⟨B, 1, none⟩ = some (.string s)) ∧ RdA W A s at_ false ∧ Below W0.heap.size W0 W
section
variable {W0 W W' : World} {v : Value} {s : ByteArray} {B A at_ at2 : Nat}
theorem cell_block (hB : W'.heap[B]? = W.heap[B]?) (j : Nat) : W'.cell? ⟨B, j, none⟩ = W.cell? ⟨B, j, none⟩ := by simp [World.cell?, hB]
theorem kn_below (h : Kn W0 v s B A at_ W) (hb : Below W.heap.size W W') (hK : B < A ∧ W0.heap.size ≤ A) : Kn W0 v s B A at_ W' :=
  ⟨⟨(hb.cell (p := ⟨B, 0, none⟩) (Nat.lt_trans hK.1 h.2.1.lt)).trans h.1.1, (hb.cell (p := ⟨B, 1, none⟩) (Nat.lt_trans hK.1 h.2.1.lt)).trans h.1.2⟩, (hb.block A h.2.1.lt).trans h.2.1, fb_call h.2.2 hb⟩
theorem kn_moved (h : Kn W0 v s B A at_ W) (hr : RdA W' A s at2 false) (hm : Moved W W' (fun k => k = A)) (hK : B < A ∧ W0.heap.size ≤ A) : Kn W0 v s B A at2 W' := by
  have hB : W'.heap[B]? = W.heap[B]? := hm.block B (Nat.lt_trans hK.1 h.2.1.lt) (fun e => by omega)
  refine ⟨⟨?_, ?_⟩, hr, bel_moved h.2.2 hm hK.2⟩
  · exact (cell_block hB 0).trans h.1.1
  · exact (cell_block hB 1).trans h.1.2
theorem kn_drew (h : Kn W0 v s B A at_ W) (n : Nat) : Kn W0 v s B A at_ (W.drewN n) := ⟨h.1, h.2.1, fb_drewN h.2.2 n⟩
theorem nil_app (b : ByteArray) : (⟨#[]⟩ : ByteArray) ++ b = b := by
  apply ByteArray.ext; simp
theorem known_text {e : Ending} (h : TextR A ⟨#[3, 97, 98]⟩ 0 W e W') : e = .returned (.string ⟨#[]⟩) ∧ RdA W' A ⟨#[3, 97, 98]⟩ 3 true ∧ Moved W W' (fun k => k = A) := by
  rcases h with ⟨_, h2, h3, h4⟩ | ⟨n, m, h1, h2, _⟩
  · exact ⟨h2, h3, h4⟩
  · exfalso
    have h5 : rd (lft ⟨#[3, 97, 98]⟩ 0) = some (3, 1) := by decide +kernel
    rw [h5] at h1
    simp only [Option.some.injEq, Prod.mk.injEq] at h1
    obtain ⟨rfl, rfl⟩ := h1
    revert h2; decide
theorem num_nil (W : World) : Calls Try.prog 17 #[.pointer none] W fun e w' => e = .returned (.int .u64 0) ∧ W = w' := by
  go_enter Try.func17, Try.ntmps17
  go_wp2
  go_step3
  go_wp2
  try rw [Exit.noGoto_ret]
  go_ret
  exact ⟨rfl, rfl⟩
theorem int_nil (W : World) : Calls Try.prog 19 #[.pointer none] W fun e w' => e = .returned (.int .i64 0) ∧ W = w' :=
  (int_none W (fun n w' => n = 0 ∧ W = w') ((num_nil W).mono fun _ _ ⟨h1, h2⟩ => ⟨0, by decide, h1, rfl, h2⟩)).mono fun _ _ ⟨n, _, h2, h3, h4⟩ => ⟨by subst h3; exact h2, h4⟩
theorem text_nil (W : World) : Calls Try.prog 21 #[.pointer none] W fun e w' => e = .returned (.string ⟨#[]⟩) ∧ W = w' := by
  go_enter Try.func21, Try.ntmps21
  go_wp2_with fail
  refine (num_nil _).mono ?_
  rintro e w' ⟨rfl, rfl⟩
  go_wp2_with fail
  refine (ok_none _).mono ?_
  rintro e w' ⟨rfl, rfl⟩
  go_wp2
  go_ret
  exact ⟨rfl, rfl⟩
theorem end_nil (W : World) : Calls Try.prog 25 #[.pointer none] W fun e w' => e = .returned (.bool false) ∧ ∃ n, w' = W.drewN n := by
  go_enter Try.func25, Try.ntmps25
  go_wp2
  go_quiet ((go_at_call 23; exact Calls.quiet_of_same ((ok_none _).mono fun _ _ ⟨he, hw⟩ => ⟨he, hw.symm⟩)))
  all_goals
    go_wp2
    go_ret
    exact ⟨rfl, _, rfl⟩
theorem end_at (h : RdA W A s at_ false) (he : at_ = s.size) : Calls Try.prog 25 #[.pointer (some ⟨A, 0, none⟩)] W fun e w' => e = .returned (.bool true) ∧ ∃ n, w' = W.drewN n := by
  subst he; exact end_yes h
end
set_option maxHeartbeats 4000000 in
set_option maxRecDepth 100000 in
theorem wireKnown_walk (w : World) : Calls Try.prog 8 #[] w fun e w' => e = .returned (.bool true) ∧ Below w.heap.size w w' := by
  have H0 : Hid (Tbl1 (w.alloc (.cells #[.int .u64 0, .string ⟨#[0]⟩, .int .u64 127, .string ⟨#[127]⟩, .int .u64 128, .string ⟨#[128, 128]⟩, .int .u64 300, .string ⟨#[129, 44]⟩, .int .u64 16383, .string ⟨#[191, 255]⟩, .int .u64 16384, .string ⟨#[192, 64, 0]⟩, .int .u64 72057594037927935, .string ⟨#[254, 255, 255, 255, 255, 255, 255, 255]⟩, .int .u64 72057594037927936, .string ⟨#[255, 1, 0, 0, 0, 0, 0, 0, 0]⟩, .int .u64 18446744073709551615, .string ⟨#[255, 255, 255, 255, 255, 255, 255, 255, 255]⟩] 47)) w.heap.size ∧ Below w.heap.size w (w.alloc (.cells #[.int .u64 0, .string ⟨#[0]⟩, .int .u64 127, .string ⟨#[127]⟩, .int .u64 128, .string ⟨#[128, 128]⟩, .int .u64 300, .string ⟨#[129, 44]⟩, .int .u64 16383, .string ⟨#[191, 255]⟩, .int .u64 16384, .string ⟨#[192, 64, 0]⟩, .int .u64 72057594037927935, .string ⟨#[254, 255, 255, 255, 255, 255, 255, 255]⟩, .int .u64 72057594037927936, .string ⟨#[255, 1, 0, 0, 0, 0, 0, 0, 0]⟩, .int .u64 18446744073709551615, .string ⟨#[255, 255, 255, 255, 255, 255, 255, 255, 255]⟩] 47)) ∧ w.heap.size < (w.alloc (.cells #[.int .u64 0, .string ⟨#[0]⟩, .int .u64 127, .string ⟨#[127]⟩, .int .u64 128, .string ⟨#[128, 128]⟩, .int .u64 300, .string ⟨#[129, 44]⟩, .int .u64 16383, .string ⟨#[191, 255]⟩, .int .u64 16384, .string ⟨#[192, 64, 0]⟩, .int .u64 72057594037927935, .string ⟨#[254, 255, 255, 255, 255, 255, 255, 255]⟩, .int .u64 72057594037927936, .string ⟨#[255, 1, 0, 0, 0, 0, 0, 0, 0]⟩, .int .u64 18446744073709551615, .string ⟨#[255, 255, 255, 255, 255, 255, 255, 255, 255]⟩] 47)).heap.size) := ⟨known1 w, fb_alloc (Below.refl _ _) _, by simp⟩
  obtain ⟨W1, hW1⟩ : ∃ W1, w.alloc (.cells #[.int .u64 0, .string ⟨#[0]⟩, .int .u64 127, .string ⟨#[127]⟩, .int .u64 128, .string ⟨#[128, 128]⟩, .int .u64 300, .string ⟨#[129, 44]⟩, .int .u64 16383, .string ⟨#[191, 255]⟩, .int .u64 16384, .string ⟨#[192, 64, 0]⟩, .int .u64 72057594037927935, .string ⟨#[254, 255, 255, 255, 255, 255, 255, 255]⟩, .int .u64 72057594037927936, .string ⟨#[255, 1, 0, 0, 0, 0, 0, 0, 0]⟩, .int .u64 18446744073709551615, .string ⟨#[255, 255, 255, 255, 255, 255, 255, 255, 255]⟩] 47) = W1 := ⟨_, rfl⟩
  rw [hW1] at H0
  have HW := Lib.hid hW1
  clear hW1
  go_enter Try.func8, Try.ntmps8
  have HB0 := Lib.hid H0.out.2.1
  go_wp2
  rw [HW.out]
  obtain ⟨T, hTT⟩ : ∃ T, w.heap.size = T := ⟨_, rfl⟩
  rw [hTT] at H0 ⊢
  clear HW
  go_loopw [23] (fun i wr => ∃ k : Nat, k ≤ 9 ∧ i = .int .i64 k ∧ Below W1.heap.size W1 wr) (fun i _ => 9 - (intOf i).toNat)
  case atStart => exact ⟨0, by omega, rfl, Below.refl _ _⟩
  case round =>
    obtain ⟨k, hk, rfl, hbel⟩ := hrel
    by_cases hlt : k < 9
    · obtain ⟨n, hn, h1, h2⟩ := (H0.out.1.below H0.out.2.2 hbel) k hlt
      have h8 := srt_le n
      have HB := Lib.hid hbel
      have hr := rd_row n [] hn
      rw [List.append_nil] at hr
      obtain ⟨s, hs⟩ : ∃ s, str (row n) = s := ⟨_, rfl⟩
      have hss : s.size = (row n).length := by rw [← hs, str_size]
      have hrd : rd (lft s 0) = some (n, s.size) := by rw [hss, ← hs, show lft (str (row n)) 0 = row n from by simp [lft, str]]; exact hr
      have hsl : s.size ≤ 9 := by rw [hss, row_len]; omega
      rw [hs] at h2
      have HS := Lib.hid (And.intro hrd hs)
      clear hbel hr hss hrd hs h8
      go_wp2_with fail
      refine (newReader_any s _).mono ?_
      rintro e w4 ⟨rfl, hw⟩
      have HK : Hid (wr.heap.size < wr.heap.size + 1 ∧ W1.heap.size ≤ wr.heap.size + 1) := ⟨Nat.lt_succ_self _, by have := HB.out.size; omega⟩
      have HD : Hid (Kn W1 (.int .u64 n) s wr.heap.size (wr.heap.size + 1) 0 w4.drew) := by
        subst hw
        refine ⟨⟨by go_simp, by go_simp⟩, ?_, ?_⟩
        · have := Arr.new (wr.alloc (.cells #[.int .u64 n, .string s] 47)) 57 [.string s, .int .i64 0, .bool false]
          rw [World.size_alloc] at this
          exact this
        · exact (fb_alloc (fb_alloc HB.out _) _).drew
      clear hw h1 h2
      go_wp2
      have q1 : ¬ 9223372036854775807 < (⟨#[112]⟩ : ByteArray).size + s.size := by rw [show (⟨#[112]⟩ : ByteArray).size = 1 from rfl]; omega
      have q2 : ¬ 9223372036854775807 < 1 + s.size := by omega
      go_region_held3 (fun wy => wy.cell? ⟨wr.heap.size, 0, none⟩ = some (.int .u64 n) ∧ wy.cell? ⟨wr.heap.size, 1, none⟩ = some (.string s)) (exact HD.out.1)
        (first
          | (go_at_call 9; refine (put_any ⟨#[112]⟩ n _ (by decide) hn).mono ?_; rintro e wN ⟨rfl, hbN⟩; have HD1 := Lib.hid (kn_below HD.out hbN HK.out); clear HD hbN; have HD := HD1; clear HD1; rw [HS.out.2])
          | (go_at_call 17; refine (num_at HD.out.2.1 (by omega) (by omega) HS.out.1).mono ?_; rintro e wN ⟨rfl, r1, m1⟩; have HD1 := Lib.hid (kn_moved HD.out r1 m1 HK.out); clear r1 m1 HD; have HD := HD1; clear HD1)
          | (go_at_call 25; refine (end_at HD.out.2.1 (Nat.zero_add _)).mono ?_; rintro e wN ⟨rfl, nq, rfl⟩; have HD1 := Lib.hid (kn_drew HD.out nq); clear HD; have HD := HD1; clear HD1))
      go_wp2
      go_roundw
      case rel => exact ⟨k + 1, by omega, by go_num, HD.out.2.2⟩
      case measure => simp [intOf]; omega
    · obtain rfl : k = 9 := by omega
      have HB := Lib.hid (fb_call HB0.out hbel)
      clear hbel hlt hk
      have G0 : Hid (Tbl2 (wr.alloc (.cells #[.int .i64 0, .string ⟨#[0]⟩, .int .i64 (-1), .string ⟨#[1]⟩, .int .i64 1, .string ⟨#[2]⟩, .int .i64 (-64), .string ⟨#[127]⟩, .int .i64 64, .string ⟨#[128, 128]⟩, .int .i64 (-9223372036854775808), .string ⟨#[255, 255, 255, 255, 255, 255, 255, 255, 255]⟩, .int .i64 9223372036854775807, .string ⟨#[255, 255, 255, 255, 255, 255, 255, 255, 254]⟩] 49)) wr.heap.size ∧ Below w.heap.size w (wr.alloc (.cells #[.int .i64 0, .string ⟨#[0]⟩, .int .i64 (-1), .string ⟨#[1]⟩, .int .i64 1, .string ⟨#[2]⟩, .int .i64 (-64), .string ⟨#[127]⟩, .int .i64 64, .string ⟨#[128, 128]⟩, .int .i64 (-9223372036854775808), .string ⟨#[255, 255, 255, 255, 255, 255, 255, 255, 255]⟩, .int .i64 9223372036854775807, .string ⟨#[255, 255, 255, 255, 255, 255, 255, 255, 254]⟩] 49)) ∧ wr.heap.size < (wr.alloc (.cells #[.int .i64 0, .string ⟨#[0]⟩, .int .i64 (-1), .string ⟨#[1]⟩, .int .i64 1, .string ⟨#[2]⟩, .int .i64 (-64), .string ⟨#[127]⟩, .int .i64 64, .string ⟨#[128, 128]⟩, .int .i64 (-9223372036854775808), .string ⟨#[255, 255, 255, 255, 255, 255, 255, 255, 255]⟩, .int .i64 9223372036854775807, .string ⟨#[255, 255, 255, 255, 255, 255, 255, 255, 254]⟩] 49)).heap.size) := ⟨known2 wr, fb_alloc HB.out _, by simp⟩
      obtain ⟨W2, hW2⟩ : ∃ W2, wr.alloc (.cells #[.int .i64 0, .string ⟨#[0]⟩, .int .i64 (-1), .string ⟨#[1]⟩, .int .i64 1, .string ⟨#[2]⟩, .int .i64 (-64), .string ⟨#[127]⟩, .int .i64 64, .string ⟨#[128, 128]⟩, .int .i64 (-9223372036854775808), .string ⟨#[255, 255, 255, 255, 255, 255, 255, 255, 255]⟩, .int .i64 9223372036854775807, .string ⟨#[255, 255, 255, 255, 255, 255, 255, 255, 254]⟩] 49) = W2 := ⟨_, rfl⟩
      rw [hW2] at G0
      have HW := Lib.hid hW2
      clear hW2
      go_wp2
      rw [HW.out]
      obtain ⟨T2, hTT⟩ : ∃ T, wr.heap.size = T := ⟨_, rfl⟩
      rw [hTT] at G0 ⊢
      clear HW HB H0 hTT
      go_loopw [62] (fun i wr => ∃ k : Nat, k ≤ 7 ∧ i = .int .i64 k ∧ Below W2.heap.size W2 wr) (fun i _ => 7 - (intOf i).toNat)
      case atStart => exact ⟨0, by omega, rfl, Below.refl _ _⟩
      case round =>
        obtain ⟨k, hk, rfl, hbel⟩ := hrel
        by_cases hlt : k < 7
        · obtain ⟨n, ⟨hn1, hn2⟩, h1, h2⟩ := (G0.out.1.below G0.out.2.2 hbel) k hlt
          have h8 := srt_le (zz n)
          have HB := Lib.hid hbel
          have hr := rd_row (zz n) [] (zz_lt n hn1 hn2)
          rw [List.append_nil] at hr
          obtain ⟨s, hs⟩ : ∃ s, str (row (zz n)) = s := ⟨_, rfl⟩
          have hss : s.size = (row (zz n)).length := by rw [← hs, str_size]
          have hrd : rd (lft s 0) = some (zz n, s.size) := by rw [hss, ← hs, show lft (str (row (zz n))) 0 = row (zz n) from by simp [lft, str]]; exact hr
          have hsl : s.size ≤ 9 := by rw [hss, row_len]; omega
          rw [hs] at h2
          have HS := Lib.hid (And.intro hrd hs)
          clear hbel hr hss hrd hs h8
          go_wp2_with fail
          refine (newReader_any s _).mono ?_
          rintro e w4 ⟨rfl, hw⟩
          have HK : Hid (wr.heap.size < wr.heap.size + 1 ∧ W2.heap.size ≤ wr.heap.size + 1) := ⟨Nat.lt_succ_self _, by have := HB.out.size; omega⟩
          have HD : Hid (Kn W2 (.int .i64 n) s wr.heap.size (wr.heap.size + 1) 0 w4.drew) := by
            subst hw
            refine ⟨⟨by go_simp, by go_simp⟩, ?_, ?_⟩
            · have := Arr.new (wr.alloc (.cells #[.int .i64 n, .string s] 49)) 57 [.string s, .int .i64 0, .bool false]
              rw [World.size_alloc] at this
              exact this
            · exact (fb_alloc (fb_alloc HB.out _) _).drew
          clear hw h1 h2
          go_wp2
          go_region_held3 (fun wy => wy.cell? ⟨wr.heap.size, 0, none⟩ = some (.int .i64 n) ∧ wy.cell? ⟨wr.heap.size, 1, none⟩ = some (.string s)) (exact HD.out.1)
            (first
              | (go_at_call 11; refine (putInt_any ⟨#[]⟩ n _ (by decide) hn1 hn2).mono ?_; rintro e wN ⟨rfl, hbN⟩; have HD1 := Lib.hid (kn_below HD.out hbN HK.out); clear HD hbN; have HD := HD1; clear HD1; rw [nil_app, HS.out.2])
              | (go_at_call 19; refine (int_at HD.out.2.1 (by omega) (by omega) HS.out.1).mono ?_; rintro e wN ⟨rfl, r1, m1⟩; have HD1 := Lib.hid (kn_moved HD.out r1 m1 HK.out); clear r1 m1 HD; have HD := HD1; clear HD1; rw [unzz_zz])
              | (go_at_call 25; refine (end_at HD.out.2.1 (Nat.zero_add _)).mono ?_; rintro e wN ⟨rfl, nq, rfl⟩; have HD1 := Lib.hid (kn_drew HD.out nq); clear HD; have HD := HD1; clear HD1))
          go_wp2
          go_roundw
          case rel => ((repeat apply Exists.intro); exact ⟨⟨k + 1, by omega, by go_num, HD.out.2.2⟩, rfl⟩)
          case measure => simp [intOf]; omega
        · obtain rfl : k = 7 := by omega
          have HB := Lib.hid (fb_call G0.out.2.1 hbel)
          clear hbel hlt hk
          have J0 : Hid (Tbl3 (wr.alloc (.cells #[.string ⟨#[]⟩, .string ⟨#[128, 127]⟩, .string ⟨#[128]⟩, .string ⟨#[192, 0, 5]⟩, .string ⟨#[192, 63, 255]⟩, .string ⟨#[254, 1, 255, 255, 255, 255, 255, 255]⟩, .string ⟨#[255, 0, 255, 255, 255, 255, 255, 255, 255]⟩, .string ⟨#[255, 1, 0]⟩] 9)) wr.heap.size ∧ Below w.heap.size w (wr.alloc (.cells #[.string ⟨#[]⟩, .string ⟨#[128, 127]⟩, .string ⟨#[128]⟩, .string ⟨#[192, 0, 5]⟩, .string ⟨#[192, 63, 255]⟩, .string ⟨#[254, 1, 255, 255, 255, 255, 255, 255]⟩, .string ⟨#[255, 0, 255, 255, 255, 255, 255, 255, 255]⟩, .string ⟨#[255, 1, 0]⟩] 9)) ∧ wr.heap.size < (wr.alloc (.cells #[.string ⟨#[]⟩, .string ⟨#[128, 127]⟩, .string ⟨#[128]⟩, .string ⟨#[192, 0, 5]⟩, .string ⟨#[192, 63, 255]⟩, .string ⟨#[254, 1, 255, 255, 255, 255, 255, 255]⟩, .string ⟨#[255, 0, 255, 255, 255, 255, 255, 255, 255]⟩, .string ⟨#[255, 1, 0]⟩] 9)).heap.size) := ⟨known3 wr, fb_alloc HB.out _, by simp⟩
          obtain ⟨W3, hW3⟩ : ∃ W3, wr.alloc (.cells #[.string ⟨#[]⟩, .string ⟨#[128, 127]⟩, .string ⟨#[128]⟩, .string ⟨#[192, 0, 5]⟩, .string ⟨#[192, 63, 255]⟩, .string ⟨#[254, 1, 255, 255, 255, 255, 255, 255]⟩, .string ⟨#[255, 0, 255, 255, 255, 255, 255, 255, 255]⟩, .string ⟨#[255, 1, 0]⟩] 9) = W3 := ⟨_, rfl⟩
          rw [hW3] at J0
          have HW := Lib.hid hW3
          clear hW3
          go_wp2
          rw [HW.out]
          obtain ⟨T3, hTT⟩ : ∃ T, wr.heap.size = T := ⟨_, rfl⟩
          rw [hTT] at J0 ⊢
          clear HW HB G0 hTT
          go_loopw [93] (fun i wr => ∃ k : Nat, k ≤ 8 ∧ i = .int .i64 k ∧ Below W3.heap.size W3 wr) (fun i _ => 8 - (intOf i).toNat)
          case atStart => exact ⟨0, by omega, rfl, Below.refl _ _⟩
          case round =>
            obtain ⟨k, hk, rfl, hbel⟩ := hrel
            by_cases hlt : k < 8
            · obtain ⟨s, hsl, hrd, h2⟩ := (J0.out.1.below J0.out.2.2 hbel) k hlt
              have hsz := hbel.size
              have HB := Lib.hid (And.intro hbel hrd)
              clear hbel hrd
              go_wp2_with fail
              refine (newReader_any s _).mono ?_
              rintro e w4 ⟨rfl, hw⟩
              have HD : Hid (RdA w4 wr.heap.size s 0 false ∧ Below W3.heap.size W3 w4) := by rw [← hw]; exact ⟨Arr.new wr 57 _, fb_alloc HB.out.1 _⟩
              clear hw h2
              go_wp2_with fail
              refine (ok_yes wr.heap.size s _ _ HD.out.1).mono ?_
              rintro e w' ⟨rfl, rfl⟩
              go_wp2_with fail
              refine (num_bad HD.out.1 (by omega) (by omega) HB.out.2).mono ?_
              rintro e w5 ⟨rfl, r1, m1⟩
              have HD2 := Lib.hid (And.intro r1 (bel_moved HD.out.2 m1 hsz))
              clear r1 m1
              go_wp2_with fail
              refine (ok_no wr.heap.size s _ _ HD2.out.1).mono ?_
              rintro e w' ⟨rfl, rfl⟩
              go_wp2_with fail
              refine (end_any wr.heap.size s _ true _ HD2.out.1).mono ?_
              rintro e w6 ⟨he, nq, rfl⟩
              rw [Bool.not_true, Bool.false_and] at he
              subst he
              go_wp2_with fail
              refine (int_bad (HD2.out.1.drewN nq) (by omega) (Nat.le_refl _) (by rw [lft_nil s s.size (Nat.le_refl _)]; rfl)).mono ?_
              rintro e w7 ⟨rfl, r1, m1⟩
              have HD3 := Lib.hid (And.intro r1 (bel_moved (fb_drewN HD2.out.2 nq) m1 hsz))
              clear r1 m1
              go_wp2_with fail
              refine (text_bad HD3.out.1 (by omega) (Nat.le_refl _) (by rw [lft_nil s s.size (Nat.le_refl _)]; rfl)).mono ?_
              rintro e w8 ⟨rfl, r1, m1⟩
              have HD4 := Lib.hid (bel_moved HD3.out.2 m1 hsz)
              clear r1 m1
              go_wp2
              go_roundw
              case rel => ((repeat apply Exists.intro); exact ⟨⟨k + 1, by omega, by go_num, HD4.out⟩, rfl⟩)
              case measure => simp [intOf]; omega
            · obtain rfl : k = 8 := by omega
              have HB := Lib.hid (fb_call J0.out.2.1 hbel)
              clear hbel hlt hk
              go_wp2_with fail
              refine (newReader_any ⟨#[3, 97, 98]⟩ _).mono ?_
              rintro e w4 ⟨rfl, hw⟩
              have HD : Hid (RdA w4 wr.heap.size ⟨#[3, 97, 98]⟩ 0 false ∧ Below w.heap.size w w4 ∧ w.heap.size ≤ wr.heap.size) := by rw [← hw]; exact ⟨Arr.new wr 57 _, fb_alloc HB.out _, HB.out.size⟩
              clear hw
              go_wp2_with fail
              refine (text_some wr.heap.size ⟨#[3, 97, 98]⟩ 0 3 1 _ HD.out.1 (by decide) (by decide) (by decide +kernel)).mono ?_
              rintro e w5 ht
              obtain ⟨rfl, r1, m1⟩ := known_text ht
              have HD2 := Lib.hid (And.intro r1 (bel_moved HD.out.2.1 m1 HD.out.2.2))
              clear r1 m1 ht
              go_wp2_with fail
              refine (ok_no wr.heap.size _ _ _ HD2.out.1).mono ?_
              rintro e w' ⟨rfl, rfl⟩
              go_wp2_with fail
              refine (putText_any ⟨#[]⟩ ⟨#[97, 98]⟩ _ (by decide) (by decide)).mono ?_
              rintro e w6 ⟨rfl, hb6⟩
              have HD3 := Lib.hid (fb_call HD2.out.2 hb6)
              clear hb6
              rw [show (⟨#[]⟩ : ByteArray) ++ str (row (⟨#[97, 98]⟩ : ByteArray).size) ++ ⟨#[97, 98]⟩ = ⟨#[2, 97, 98]⟩ from by decide +kernel]
              go_wp2_with fail
              refine (num_nil _).mono ?_
              rintro e w' ⟨rfl, rfl⟩
              go_wp2_with fail
              refine (int_nil _).mono ?_
              rintro e w' ⟨rfl, rfl⟩
              go_wp2_with fail
              refine (text_nil _).mono ?_
              rintro e w' ⟨rfl, rfl⟩
              go_wp2_with fail
              refine (ok_none _).mono ?_
              rintro e w' ⟨rfl, rfl⟩
              go_wp2_with fail
              refine (end_nil _).mono ?_
              rintro e w' ⟨rfl, nq, rfl⟩
              go_wp2_with fail
              refine (works_any _).mono ?_
              rintro e w9 ⟨rfl, hb9⟩
              have HB9 := Lib.hid hb9
              clear hb9
              go_wp2
              go_ret
              exact ⟨rfl, fb_call (fb_drewN HD3.out nq) HB9.out⟩

theorem wireKnown_own : ownKnob Try.prog.godebug = none := by kernel_rfl
theorem wireKnown_laidOut : laidOutB Try.prog = true := by kernel_rfl

set_option maxHeartbeats 1000000 in
set_option maxRecDepth 100000 in
theorem wireKnown_lifted (os : Os) (started : os.Started) (H : Type) (enc : TypeId × Value → H) :
    ReturnsInHanded {} Try.checked os 8 .any (Rows.wireKnownSpec.pre6 enc Try.prog Try.f8 Rows.wireKnownRow.domain false) (Rows.wireKnownSpec.post enc Try.prog Try.f8 false true false false) := by
  refine returnsInHanded_of_change (C := Try.checked) wireKnown_own started (by kernel_rfl) Try.func8
    (ChangeSpec.witness6 (enc := enc) (C := Try.checked) false ⟨#[], #[], []⟩ 8 (by kernel_rfl) (by kernel_rfl) (by kernel_rfl) (by kernel_rfl)) ?_
  intro W base args ds gs before hval0 hW hcnd _
  have hval : ∀ (j : Nat) t v, Try.f8.params[j]? = some t → args[j]? = some v → Value.okWide Try.prog W .any base t v := hval0
  have hW' := hW
  obtain ⟨p, q, hA0, hV, rfl, hfz, hnd⟩ := hW
  have hA : DataW.TrodAll enc Try.prog W 0 (fun _ => true) true Try.f8.params.toList args.toList ds p := hA0
  rw [Try.params8] at hA hval
  obtain ⟨hargs, rfl, rfl⟩ := trodAll_nil hA
  obtain rfl : args = #[] := by cases args; simp_all
  obtain ⟨rfl, rfl⟩ := trodVars_none hV
  clear hA0 hval0
  refine (wireKnown_walk W).mono fun e W' ⟨he, bel⟩ => ?_
  subst he
  exact ⟨_, rfl, _, _, _, [], _, [], hW', trodAll_mk1 (shut_bool Try.underlying4 _), trodAll_mk0, rfl, bel.frame _, fun h => by cases h⟩

theorem wireKnown_over : Rows.wireKnownRow.holds Try.pinned (OpenSpec.ofChange Rows.wireKnownSpec) :=
  OpenClaim.holds_of_wide 8 Try.f8 rfl rfl rfl rfl rfl rfl rfl ⟨rfl, rfl, rfl, rfl, rfl⟩ rfl rfl rfl rfl rfl (by kernel_rfl) Try.func8 (by kernel_rfl)
    (of_decide_eq_true (by kernel_rfl)) (by unfold Func.isWrapper; first | (rw [if_pos (by decide +kernel)]; kernel_rfl) | (rw [if_neg (by decide +kernel)]; exact ⟨rfl, rfl⟩))
    (fun os started H enc _ => wireKnown_lifted os started H enc)

/-- The statement. -/
theorem wireKnown_holds : Rows.WireKnownSaid := wireKnown_over
#print axioms wireKnown_holds
end Go.Proofs.Ytjfdmbbhpabgnaa
