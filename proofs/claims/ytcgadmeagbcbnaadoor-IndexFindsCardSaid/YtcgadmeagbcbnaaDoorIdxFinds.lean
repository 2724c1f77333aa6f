/- How slices of the law's structs of bytes and a bool that came in are opened. No condition. The walk of IndexFinds. No condition but the library's table. IndexFinds: who has what is what one finds by looking at each slot. No condition. -/
import Derived.Test.YtcgadmeagbcbnaaDoorIdxFindsP
import Derived.Test.YtcgadmeagbcbnaaDoorOpenT
import Derived.Test.YtcgadmeagbcbnaaDoorIdxTab
import Derived.Test.YtcgadmeagbcbnaaDoorTie
import Derived.Test.YtcgadmeagbcbnaaDoorCards
import Derived.SevenTiedAt
namespace Go.Proofs.YtcgadmeagbcbnaaDoor
section
open Go.ChangeShapes Go.WideShapes Go.ChangeAt Go.RowKit Go.Deep

theorem u8_nat {x : Int} (h : (Lit.int .u8 x).wf = true) : ∃ n : Nat, x = n ∧ n < 256 := by
  simp [Lit.wf, IntKind.min, IntKind.max, IntKind.signed, IntKind.bits] at h
  exact ⟨x.toNat, by omega, by omega⟩
theorem byts_of {W : World} {a : Option Addr} {len cap : Nat} {F : Nat → Int} (h : Nums W W.heap.size .u8 (.slice a len cap) len F) : Byts W a len (fun i => (F i).toNat) := by
  obtain ⟨a', c', e, _, _, h⟩ := h
  injection e with e1 _ _
  subst e1
  rcases h with h | ⟨b, o, rfl, hb, hc⟩
  · exact .inl h
  · refine .inr ⟨b, o, rfl, hb, fun i hi => ?_⟩
    obtain ⟨h1, h2⟩ := hc i hi
    obtain ⟨n, hn, hl⟩ := u8_nat h2
    rw [hn] at h1
    have e : (F i).toNat = n := by rw [hn, Int.toNat_natCast]
    show (F i).toNat < 256 ∧ W.cell? _ = some (.int .u8 ((F i).toNat : Nat))
    rw [e]
    exact ⟨hl, h1⟩
section
variable {H : Type} {enc : TypeId × Value → H} {W : World} {base : Nat} {held : Bool}
set_option maxRecDepth 100000 in
theorem open_puts {r : Reach} {b0 : Nat} {v : Value} {d : DataW H} {p : List MemPlace}
    (hv : Value.okWide Tryd.prog W r b0 55 v) (h : DataW.Trod enc Tryd.prog W base (fun _ => true) held 55 v d p) :
    ∃ (a : Option Addr) (len cap : Nat) (F : Nat → Nat → Nat) (K : Nat → Bool), v = .slice a len cap ∧ len ≤ cap ∧ cap ≤ maxLen ∧ Puts W a len F K := by
  obtain ⟨a0, len, cap, rfl⟩ := okWide_slice Tryd.underlying55 hv
  obtain ⟨fuel, hf⟩ := h
  rcases open_slice_fields Tryd.underlying55 Tryd.underlying58 (by kernel_rfl) (by kernel_rfl) hf with ⟨hcs, _⟩ | ⟨a, len', cap', m, hcs, _, hl, hm, hmm, hx⟩
  · simp [Value.cells] at hcs
    obtain ⟨rfl, rfl, rfl⟩ := hcs
    exact ⟨none, 0, 0, fun _ _ => 0, fun _ => false, rfl, Nat.le_refl _, Nat.zero_le _, .inl rfl⟩
  · simp [Value.cells] at hcs
    obtain ⟨rfl, rfl, rfl⟩ := hcs
    have each : ∀ i, i < len → ∃ (x y : Nat) (z : Bool), (x < 256 ∧ W.cell? (a.add (i * 3 + 0)) = some (.int .u8 (x : Int))) ∧ (y < 256 ∧ W.cell? (a.add (i * 3 + 1)) = some (.int .u8 (y : Int))) ∧ W.cell? (a.add (i * 3 + 2)) = some (.bool z) := fun i hi => by
      obtain ⟨n, hn⟩ := hx i (by rw [hmm]; simp; omega)
      obtain ⟨u0, y0, hc0, hy0⟩ := hn 0 _ rfl
      obtain ⟨x0, e0, _, hw0⟩ := DataW.trod_int Tryd.underlying5 hy0
      obtain ⟨n0, rfl, hl0⟩ := u8_nat hw0
      obtain ⟨u1, y1, hc1, hy1⟩ := hn 1 _ rfl
      obtain ⟨x1, e1, _, hw1⟩ := DataW.trod_int Tryd.underlying5 hy1
      obtain ⟨n1, rfl, hl1⟩ := u8_nat hw1
      obtain ⟨u2, y2, hc2, hy2⟩ := hn 2 _ rfl
      obtain ⟨x2, e2, _⟩ := DataW.trod_bool Tryd.underlying4 hy2
      rw [show u0 = .int .u8 n0 by simpa using e0] at hc0
      rw [show u1 = .int .u8 n1 by simpa using e1] at hc1
      rw [show u2 = .bool x2 by simpa using e2] at hc2
      exact ⟨n0, n1, x2, ⟨hl0, hc0⟩, ⟨hl1, hc1⟩, hc2⟩
    obtain ⟨F0, F1, K, hF⟩ : ∃ (F0 F1 : Nat → Nat) (K : Nat → Bool), ∀ i, i < len → (F0 i < 256 ∧ W.cell? (a.add (i * 3 + 0)) = some (.int .u8 (F0 i : Int))) ∧ (F1 i < 256 ∧ W.cell? (a.add (i * 3 + 1)) = some (.int .u8 (F1 i : Int))) ∧ W.cell? (a.add (i * 3 + 2)) = some (.bool (K i)) := by
      refine ⟨fun i => if hh : i < len then Classical.choose (each i hh) else 0, fun i => if hh : i < len then Classical.choose (Classical.choose_spec (each i hh)) else 0,
        fun i => if hh : i < len then Classical.choose (Classical.choose_spec (Classical.choose_spec (each i hh))) else false, fun i hi => ?_⟩
      simpa [hi] using Classical.choose_spec (Classical.choose_spec (Classical.choose_spec (each i hi)))
    refine ⟨some a, len, cap, fun i j => if j = 0 then F0 i else F1 i, K, rfl, hl, hm, ?_⟩
    by_cases hl0 : len = 0
    · exact .inl hl0
    · obtain ⟨bk, off, spot⟩ := a
      have c0 := (hF 0 (by omega)).1.2
      have hspot : spot = none := by simpa [Addr.add] using World.cell?_spot c0
      subst hspot
      have hbk := World.block_lt_of_cell? _ _ c0
      rw [add_plain] at hbk
      refine .inr ⟨bk, off, rfl, hbk, fun i hi => ?_⟩
      obtain ⟨⟨g0, h0⟩, ⟨g1, h1⟩, h2⟩ := hF i hi
      rw [add_plain] at h0 h1 h2
      exact ⟨⟨g0, h0⟩, ⟨g1, by rw [Nat.add_assoc]; exact h1⟩, by rw [Nat.add_assoc]; exact h2⟩
end
end
section
open Go.RowKit
attribute [local irreducible] Calls

set_option maxRecDepth 100000 in
set_option maxHeartbeats 8000000 in
theorem indexFinds_walk (a1 : Option Addr) (n1 c1 : Nat) (F1 : Nat → Nat → Nat) (K1 : Nat → Bool) (w : World)
    (h1 : Puts w a1 n1 F1 K1) (hn1 : n1 ≤ 9223372036854775807) (hT : TabAt w) (h0 : 0 < w.heap.size) :
    Calls Tryd.prog 4 #[.slice a1 n1 c1] w fun e w' => e = .returned (.bool true) ∧ Below w.heap.size w w' := by
  have HTT := Lib.hid (And.intro hT h0)
  have HI := Lib.hid h1
  clear hT h0 h1
  go_enter Tryd.func4, Tryd.ntmps4
  go_wp2_with fail
  refine (works_any w HTT.out.1 HTT.out.2).mono ?_
  rintro e wz_ ⟨rfl, hbz_⟩
  have HBZ := Lib.hid hbz_
  clear hbz_
  go_wp2_with fail
  refine (three_any wz_).mono ?_
  rintro e wx ⟨u_, vs_, rfl, hp_⟩
  have HP := Lib.hid hp_
  have HBX := Lib.hid (fb_call HBZ.out hp_.bel)
  clear hp_
  go_wp2_with fail
  refine (tr_new wx).mono ?_
  rintro e wa_ ⟨rfl, hT0_⟩
  have HT1 := Lib.hid (hT0_ wx (Below.refl _ _))
  have HB1 := Lib.hid HT1.out.2
  clear hT0_
  obtain ⟨T1, hT1_⟩ : ∃ T, wx.heap.size = T := ⟨_, rfl⟩
  rw [hT1_] at HT1 ⊢
  go_wp2_with fail
  refine (inew_any (w0 := wx) (col := fun j => if j < wx.heap.size then 0 else 1) (c := 1) HT1.out.1 (fun j hj => if_neg (Nat.not_lt.2 (HT1.out.1.base hj).1)) (by simp) (by simp) (HP.out.below HB1.out).cards abs3_len abs3_five abs3_wf (fun _ => True) trivial (fun _ _ _ _ _ _ => trivial)).mono ?_
  rintro e wc_ ⟨b, q1, rfl, _, hba_, _, _, hN1_⟩
  have HA := Lib.hid hba_
  have HN1 := Lib.hid hN1_
  clear hN1_ hba_
  go_wp2_with fail
  refine (tr_new wc_).mono ?_
  rintro e wd_ ⟨rfl, hT0_⟩
  have HT2 := Lib.hid (hT0_ wx HN1.out.1.bel)
  have HB2 := Lib.hid HT2.out.2
  clear hT0_
  obtain ⟨T2, hT2_⟩ : ∃ T, wc_.heap.size = T := ⟨_, rfl⟩
  rw [hT2_] at HT2 ⊢
  have HC2 := Lib.hid (cards_on HP.out HB1.out HN1.out.2 HB2.out)
  go_wp2_with fail
  refine (inew_any (w0 := wx) (col := fun j => if j < wx.heap.size then 0 else if j < wc_.heap.size then 1 else 3) (c := 3) HT2.out.1 (fun j hj => own_col (by rw [hT2_]; exact hj) (HN1.out.1.bel.size)) (by simp) (by simp) HC2.out abs3_len abs3_five abs3_wf (fun _ => True) trivial (fun _ _ _ _ _ _ => trivial)).mono ?_
  rintro e we_ ⟨f, q2, rfl, _, hfa_, _, _, hN2_⟩
  have HFA := Lib.hid hfa_
  have HX := Lib.hid (xy_made HB1.out.size (ISN.mono (n := 100) HN1.out (by simp)) HB2.out (ISN.mono (n := 100) hN2_ (by simp)))
  clear hN2_ hfa_ HC2 HT2 HT1 HN1 HP HB1 HB2 hT1_ hT2_
  have hbx := HX.out.bel.size
  obtain ⟨BH, hBH⟩ : ∃ B, we_.heap.size = B := ⟨_, rfl⟩
  have HX2 := Lib.hid (HX.out.box 30 (M0.H.map (Value.int .i64)))
  rw [hBH] at HX2 hbx
  have HBB := Lib.hid hbx
  clear HX hbx
  go_upto_region 8 with fail
  rw [show Tryd.zeroCells30 = (M0.H.map (Value.int .i64)).toArray from by kernel_rfl]
  generalize World.alloc _ _ = wf_ at HX2 ⊢
  clear hBH
  go_wp2
  go_loopw [7] (fun x wr => ∃ (i : Nat) (M : IM), i ≤ n1 ∧ i ≤ 100 ∧ x = .int .i64 i ∧ Hid (XY wx wr b (100 + 200 * i) M f 100 M0 [(BH, 30, M.H.map (Value.int .i64))])) (fun x _ => n1 - (intOf x).toNat)
  case atStart => exact ⟨0, M0, Nat.zero_le _, by omega, rfl, HX2⟩
  case round =>
    obtain ⟨i, M, hi, hi100, rfl, hst⟩ := hrel
    clear HX2
    by_cases hgo : i < n1 ∧ i < 100
    · obtain ⟨hlt, h100⟩ := hgo
      obtain ⟨B, o, rfl, hB, hc⟩ := HI.out.resolve_left (by omega)
      obtain ⟨⟨s256, hc0⟩, ⟨c256, hc1⟩, hc2⟩ := hc i hlt
      obtain ⟨s, hs⟩ : ∃ s, F1 i 0 = s := ⟨_, rfl⟩
      obtain ⟨cd, hcd⟩ : ∃ s, F1 i 1 = s := ⟨_, rfl⟩
      obtain ⟨kb, hkb⟩ : ∃ s, K1 i = s := ⟨_, rfl⟩
      rw [hs] at hc0 s256
      rw [hcd] at hc1 c256
      rw [hkb] at hc2
      have hbl := fb_call HBX.out hst.out.bel
      have d0 : wr.cell? ⟨B, o + i * 3, none⟩ = some (.int .u8 (s : Int)) := (hbl.cell (p := ⟨B, o + i * 3, none⟩) hB).trans hc0
      have d1 : wr.cell? ⟨B, o + i * 3 + 1, none⟩ = some (.int .u8 (cd : Int)) := (hbl.cell (p := ⟨B, o + i * 3 + 1, none⟩) hB).trans hc1
      have d2 : wr.cell? ⟨B, o + i * 3 + 2, none⟩ = some (.bool kb) := (hbl.cell (p := ⟨B, o + i * 3 + 2, none⟩) hB).trans hc2
      have i00 : (0 : Int) ≤ i := by omega
      have i01 : (i : Int) < n1 := by omega
      have i02 : (i : Int) < 100 := by omega
      have s0_ : (0 : Int) ≤ s := by omega
      have s1_ : (s : Int) ≤ 255 := by omega
      have s2_ : (s : Int) < 256 := by omega
      have c0_ : (0 : Int) ≤ cd := by omega
      have c1_ : (cd : Int) ≤ 255 := by omega
      obtain ⟨c4, hc4⟩ : ∃ c, cd % 4 = c := ⟨_, rfl⟩
      have e4 : (cd : Int) % 4 = (c4 : Int) := by omega
      have c40 : (0 : Int) ≤ c4 := by omega
      have c44 : (c4 : Int) < 4 := by omega
      have HK := Lib.hid (And.intro hB (And.intro hc0 hc1))
      have hl := hst.out.gb.len
      clear hc hc0 hc1 hc2 hs hcd hkb hbl c256 hB hc4
      cases kb
      · have HC := Lib.hid (fun n => xy_put1 (hst.out.below (fb_drewN (Below.refl _ wr) n)) (by omega) (s : Int) (c4 : Int))
        clear hst
        go_upto_region 14 with fail
        refine wp_region_drewN_tail 14 (by kernel_rfl) (by kernel_rfl) ?_
        simp only [List.take_succ_cons, List.take_zero, List.drop_succ_cons, List.drop_zero]
        repeat (go_big_quiet_step (fail))
        refine wpQuiet_nil ?_
        intro _ hw'
        obtain ⟨nq, hw''⟩ := hw'
        subst hw''
        go_wp2_with (go_at_call 18; refine (HC.out _).mono ?_; rintro e w1 ⟨rfl, hN⟩; have HN := Lib.hid hN; clear hN)
        have hbl := fb_call HBX.out HN.out.bel
        have k0 : w1.cell? ⟨B, o + i * 3, none⟩ = some (.int .u8 (s : Int)) := (hbl.cell (p := ⟨B, o + i * 3, none⟩) HK.out.1).trans HK.out.2.1
        have k1 : w1.cell? ⟨B, o + i * 3 + 1, none⟩ = some (.int .u8 (cd : Int)) := (hbl.cell (p := ⟨B, o + i * 3 + 1, none⟩) HK.out.1).trans HK.out.2.2
        have m0 : w1.cell? ⟨BH, s, none⟩ = some (.int .i64 (M.H.getD s 0)) := Arr.int (HN.out.at (.head _)) (by omega)
        have f0 : w1.frozen? ⟨BH, s, none⟩ = false := (HN.out.at (.head _)).frozen s
        have HS := Lib.hid (fun nq => (HN.out.below (fb_drewN (Below.refl _ w1) nq)).held HBB.out s (1 + (c4 : Int)))
        have HH := Lib.hid (put_H b.abs s c4 M s256 (by omega))
        clear d0 d1 d2 hbl HN HC
        refine wp_region_drewN_tail 14 (by kernel_rfl) (by kernel_rfl) ?_
        simp only [List.take_succ_cons, List.take_zero, List.drop_succ_cons, List.drop_zero]
        repeat (go_big_quiet_step (fail))
        refine wpQuiet_nil ?_
        intro _ hw'
        obtain ⟨nq, hw''⟩ := hw'
        subst hw''
        go_wp2
        go_roundw
        case rel => exact ⟨i + 1, _, by omega, by omega, by go_num, Lib.hid (by rw [HH.out]; exact (HS.out _).mono (by omega) (Nat.le_refl _))⟩
        case measure => simp [intOf]; omega
      · have HC := Lib.hid (xy_take1 hst.out (by omega) (s : Int))
        clear hst
        go_wp2_with fail
        refine HC.out.mono ?_
        rintro e w1 ⟨rfl, hN⟩
        have HN := Lib.hid hN
        clear hN
        have hbl := fb_call HBX.out HN.out.bel
        have k0 : w1.cell? ⟨B, o + i * 3, none⟩ = some (.int .u8 (s : Int)) := (hbl.cell (p := ⟨B, o + i * 3, none⟩) HK.out.1).trans HK.out.2.1
        have m0 : w1.cell? ⟨BH, s, none⟩ = some (.int .i64 (M.H.getD s 0)) := Arr.int (HN.out.at (.head _)) (by omega)
        have f0 : w1.frozen? ⟨BH, s, none⟩ = false := (HN.out.at (.head _)).frozen s
        have HS := Lib.hid (HN.out.held HBB.out s 0)
        have HH := Lib.hid (take_H b.abs s M s256)
        clear d0 d1 d2 hbl HN HC
        go_wp2
        go_roundw
        case rel => exact ⟨i + 1, _, by omega, by omega, by go_num, Lib.hid (by rw [HH.out]; exact HS.out.mono (by omega) (Nat.le_refl _))⟩
        case measure => simp [intOf]; omega
    · have HX3 := Lib.hid (hst.out.mono (k' := 30000) (n' := 100) (by omega) (by omega))
      have hend : i = n1 ∨ (i = 100 ∧ i < n1) := by omega
      clear hst hgo
      obtain ⟨wo, rfl⟩ : ∃ wo : World, wo = wr := ⟨_, rfl⟩
      have hbh := (HX3.out.at (.head _)).lt
      have hbs := HX3.out.bel.size
      obtain ⟨BD, hBD⟩ : ∃ B, wo.heap.size = B := ⟨_, rfl⟩
      obtain ⟨BS, hBS⟩ : ∃ B, BD + 1 = B := ⟨_, rfl⟩
      have HX4 := Lib.hid (((HX3.out.box 48 (uc [0, 0, 0, 0])).box 48 (uc [0, 0, 0, 0])).swap)
      simp only [World.size_alloc, hBD, hBS] at HX4
      simp only [uc, List.map_cons, List.map_nil] at HX4
      have hb0 := HBB.out
      have HBD := Lib.hid (show (wx.heap.size ≤ BD ∧ BS ≠ BD ∧ BH ≠ BD) ∧ (wx.heap.size ≤ BS ∧ BD ≠ BS ∧ BH ≠ BS) from by omega)
      clear hbh hbs hb0 HX3
      rcases hend with rfl | ⟨rfl, hlt⟩
      all_goals
        go_upto_region 17 with fail
        generalize World.alloc _ _ = wg_ at HX4 ⊢
        clear hBD hBS
        go_wp2
        go_loopw [10] (fun x wr => ∃ (r : Nat) (N : IM) (D S : List Nat) (iv : Int), r ≤ 256 ∧ iv + 1 = r ∧ x = .int .i64 iv ∧ Half M.H r N ∧ From M.H dieP r D ∧ From M.H stP r S ∧ Hid (XY wx wr b 30000 M f (100 + 100 * (256 - r)) N [(BD, 48, uc D), (BS, 48, uc S), (BH, 30, M.H.map (Value.int .i64))])) (fun x _ => (intOf x + 1).toNat)
        case atStart => exact ⟨256, M0, [0, 0, 0, 0], [0, 0, 0, 0], 255, by omega, by omega, rfl, half_top _, from_top _ _, from_top _ _, HX4⟩
        case round =>
          obtain ⟨r, N, D, S, iv, hr, hiv, rfl, hh, hD, hS, hst⟩ := hrel
          clear HX4
          by_cases hge : 0 ≤ iv
          · obtain ⟨s, rfl⟩ := Int.eq_ofNat_of_zero_le hge
            obtain rfl : r = s + 1 := by omega
            have hs256 : s < 256 := by omega
            obtain ⟨v, hv⟩ : ∃ v, M.H.getD s 0 = v := ⟨_, rfl⟩
            have hrg := hst.out.gb.rng s hs256
            have hlen : s < M.H.length := by rw [hst.out.gb.len]; exact hs256
            rw [hv] at hrg
            obtain ⟨h0v, h40⟩ := hrg
            have HV := Lib.hid hv
            have HW := Lib.hid (show IntKind.i64.wrap (v - 1) = v - 1 from by rw [IntKind.wrap_i64]; first | omega | (split <;> omega))
            have HFD := Lib.hid hD
            have HFS := Lib.hid hS
            have HHF := Lib.hid hh
            have s0_ : (0 : Int) ≤ s := by omega
            have s1_ : (s : Int) ≤ 255 := by omega
            have s2_ : (s : Int) < 256 := by omega
            have c0 : wr.cell? ⟨BH, s, none⟩ = some (.int .i64 v) := by rw [← hv]; exact Arr.int (hst.out.at (.tail _ (.tail _ (.head _)))) hlen
            have HX := hst
            clear hst hh hD hS hv hge
            by_cases hp : 0 < v
            · have HC := Lib.hid (xy_put2 HX.out (by omega) (s : Int) (v - 1))
              go_wp2_with fail
              refine HC.out.mono ?_
              rintro e w1 ⟨rfl, hN⟩
              have HX_ := Lib.hid hN
              have HHN := Lib.hid (half_put (abs := f.abs) HHF.out HX.out.gf.len hs256 (by rw [HV.out]; exact hp) (by rw [HV.out]; exact h40))
              clear hN HX HC c0
              have HX := HX_
              clear HX_
              have c0 : w1.cell? ⟨BH, s, none⟩ = some (.int .i64 v) := by rw [← HV.out]; exact Arr.int (HX.out.at (.tail _ (.tail _ (.head _)))) hlen
              rw [HV.out] at HHN
              go_upto_region 22 with fail
              have HTC := Lib.hid (xy_card1 (HX.out.below (bel_drew (Below.refl _ _))) (s : Int))
              rw [card_H s M hs256, HV.out] at HTC
              go_region_held3 (fun wy => wy.cell? ⟨BH, s, none⟩ = some (.int .i64 v))
                (first | exact c0 | exact HV.out ▸ Arr.int (HX5.out.at (.tail _ (.tail _ (.head _)))) hlen)
                ((go_at_call 20; refine HTC.out.mono ?_; rintro e w4_ ⟨rfl, hb_⟩; have HX5 := Lib.hid (HX.out.below (fb_call (bel_drew (Below.refl _ _)) hb_)); clear hb_))
              all_goals
                clear HX c0
                have HX := HX5
                clear HX5
                have c0 : w4_.cell? ⟨BH, s, none⟩ = some (.int .i64 v) := by rw [← HV.out]; exact Arr.int (HX.out.at (.tail _ (.tail _ (.head _)))) hlen
                by_cases v2 : v = 2
                · subst v2
                  have HPD : dieP (M.H.getD s 0) = true := by rw [HV.out]; rfl
                  obtain ⟨x0, x1, x2, x3, hLL, _⟩ := wf_form HFD.out.1
                  obtain ⟨y0, y1, y2, y3, hMM, _⟩ := wf_form (wf_addI HFD.out.1 (s : Int))
                  have HC := Lib.hid (fun W => badd_any HFD.out.1 (s : Int) W)
                  have HNEW := Lib.hid (from_add HFD.out hs256 HPD)
                  rw [hMM] at HC HNEW
                  rw [hLL] at HC HX
                  simp only [show svL [x0, x1, x2, x3] = .agg #[.int .u64 x0, .int .u64 x1, .int .u64 x2, .int .u64 x3] from rfl, show svL [y0, y1, y2, y3] = .agg #[.int .u64 y0, .int .u64 y1, .int .u64 y2, .int .u64 y3] from rfl] at HC
                  have n0 : w4_.cell? ⟨BD, 0, none⟩ = some (.int .u64 x0) := (HX.out.at (.head _)).cell 0
                  have n1_ : w4_.cell? ⟨BD, 1, none⟩ = some (.int .u64 x1) := (HX.out.at (.head _)).cell 1
                  have n2 : w4_.cell? ⟨BD, 2, none⟩ = some (.int .u64 x2) := (HX.out.at (.head _)).cell 2
                  have n3 : w4_.cell? ⟨BD, 3, none⟩ = some (.int .u64 x3) := (HX.out.at (.head _)).cell 3
                  go_wp2_with fail
                  refine (HC.out _).mono ?_
                  rintro e w2_ ⟨rfl, hb_⟩
                  have hX2 := HX.out.below hb_
                  have m0 : w2_.cell? ⟨BD, 0, none⟩ = some (.int .u64 x0) := (hX2.at (.head _)).cell 0
                  have m1 : w2_.cell? ⟨BD, 1, none⟩ = some (.int .u64 x1) := (hX2.at (.head _)).cell 1
                  have m2 : w2_.cell? ⟨BD, 2, none⟩ = some (.int .u64 x2) := (hX2.at (.head _)).cell 2
                  have m3 : w2_.cell? ⟨BD, 3, none⟩ = some (.int .u64 x3) := (hX2.at (.head _)).cell 3
                  have f0 := (hX2.at (.head _)).frozen 0
                  have f1 := (hX2.at (.head _)).frozen 1
                  have f2 := (hX2.at (.head _)).frozen 2
                  have f3 := (hX2.at (.head _)).frozen 3
                  have HX_ := Lib.hid (XY.die4 y0 y1 y2 y3 hX2 HBD.out.1.1 (ne2 HBD.out.1.2.1 HBD.out.1.2.2))
                  clear hb_ hX2 HX HC n0 n1_ n2 n3 c0 hLL hMM
                  have HX := HX_
                  clear HX_
                  go_upto_region 26 with fail
                  clear m0 m1 m2 m3 f0 f1 f2 f3
                  generalize World.setCell _ _ _ = w3_ at HX ⊢
                  have c0 : w3_.cell? ⟨BH, s, none⟩ = some (.int .i64 2) := by rw [← HV.out]; exact Arr.int (HX.out.at (.tail _ (.tail _ (.head _)))) hlen
                  go_wp2
                  go_roundw
                  case rel => exact ⟨s, _, [y0, y1, y2, y3], S, (s : Int) - 1, by omega, by omega, by go_num, HHN.out, HNEW.out, from_same HFS.out (by rw [HV.out]; rfl), Lib.hid (HX.out.mono (k' := 30000) (n' := 100 + 100 * (256 - s)) (Nat.le_refl _) (by omega))⟩
                  case measure => simp [intOf] <;> omega
                · by_cases v3 : v = 3
                  · subst v3
                    have HPD : dieP (M.H.getD s 0) = true := by rw [HV.out]; rfl
                    have HPS : stP (M.H.getD s 0) = true := by rw [HV.out]; rfl
                    obtain ⟨x0, x1, x2, x3, hLL, _⟩ := wf_form HFD.out.1
                    obtain ⟨y0, y1, y2, y3, hMM, _⟩ := wf_form (wf_addI HFD.out.1 (s : Int))
                    have HC := Lib.hid (fun W => badd_any HFD.out.1 (s : Int) W)
                    have HNEW := Lib.hid (from_add HFD.out hs256 HPD)
                    rw [hMM] at HC HNEW
                    rw [hLL] at HC HX
                    simp only [show svL [x0, x1, x2, x3] = .agg #[.int .u64 x0, .int .u64 x1, .int .u64 x2, .int .u64 x3] from rfl, show svL [y0, y1, y2, y3] = .agg #[.int .u64 y0, .int .u64 y1, .int .u64 y2, .int .u64 y3] from rfl] at HC
                    have n0 : w4_.cell? ⟨BD, 0, none⟩ = some (.int .u64 x0) := (HX.out.at (.head _)).cell 0
                    have n1_ : w4_.cell? ⟨BD, 1, none⟩ = some (.int .u64 x1) := (HX.out.at (.head _)).cell 1
                    have n2 : w4_.cell? ⟨BD, 2, none⟩ = some (.int .u64 x2) := (HX.out.at (.head _)).cell 2
                    have n3 : w4_.cell? ⟨BD, 3, none⟩ = some (.int .u64 x3) := (HX.out.at (.head _)).cell 3
                    go_wp2_with fail
                    refine (HC.out _).mono ?_
                    rintro e w2_ ⟨rfl, hb_⟩
                    have hX2 := HX.out.below hb_
                    have m0 : w2_.cell? ⟨BD, 0, none⟩ = some (.int .u64 x0) := (hX2.at (.head _)).cell 0
                    have m1 : w2_.cell? ⟨BD, 1, none⟩ = some (.int .u64 x1) := (hX2.at (.head _)).cell 1
                    have m2 : w2_.cell? ⟨BD, 2, none⟩ = some (.int .u64 x2) := (hX2.at (.head _)).cell 2
                    have m3 : w2_.cell? ⟨BD, 3, none⟩ = some (.int .u64 x3) := (hX2.at (.head _)).cell 3
                    have f0 := (hX2.at (.head _)).frozen 0
                    have f1 := (hX2.at (.head _)).frozen 1
                    have f2 := (hX2.at (.head _)).frozen 2
                    have f3 := (hX2.at (.head _)).frozen 3
                    have HX_ := Lib.hid (XY.die4 y0 y1 y2 y3 hX2 HBD.out.1.1 (ne2 HBD.out.1.2.1 HBD.out.1.2.2))
                    clear hb_ hX2 HX HC n0 n1_ n2 n3 c0 hLL hMM
                    have HX := HX_
                    clear HX_
                    go_upto_region 26 with fail
                    clear m0 m1 m2 m3 f0 f1 f2 f3
                    generalize World.setCell _ _ _ = w3_ at HX ⊢
                    have HNEWD := HNEW
                    clear HNEW
                    have c0 : w3_.cell? ⟨BH, s, none⟩ = some (.int .i64 3) := by rw [← HV.out]; exact Arr.int (HX.out.at (.tail _ (.tail _ (.head _)))) hlen
                    obtain ⟨z0, z1, z2, z3, hLL, _⟩ := wf_form HFS.out.1
                    obtain ⟨u0, u1, u2, u3, hMM, _⟩ := wf_form (wf_addI HFS.out.1 (s : Int))
                    have HC := Lib.hid (fun W => badd_any HFS.out.1 (s : Int) W)
                    have HNEW := Lib.hid (from_add HFS.out hs256 HPS)
                    rw [hMM] at HC HNEW
                    rw [hLL] at HC HX
                    simp only [show svL [z0, z1, z2, z3] = .agg #[.int .u64 z0, .int .u64 z1, .int .u64 z2, .int .u64 z3] from rfl, show svL [u0, u1, u2, u3] = .agg #[.int .u64 u0, .int .u64 u1, .int .u64 u2, .int .u64 u3] from rfl] at HC
                    have n0 : w3_.cell? ⟨BS, 0, none⟩ = some (.int .u64 z0) := (HX.out.at (.tail _ (.head _))).cell 0
                    have n1_ : w3_.cell? ⟨BS, 1, none⟩ = some (.int .u64 z1) := (HX.out.at (.tail _ (.head _))).cell 1
                    have n2 : w3_.cell? ⟨BS, 2, none⟩ = some (.int .u64 z2) := (HX.out.at (.tail _ (.head _))).cell 2
                    have n3 : w3_.cell? ⟨BS, 3, none⟩ = some (.int .u64 z3) := (HX.out.at (.tail _ (.head _))).cell 3
                    go_wp2_with fail
                    refine (HC.out _).mono ?_
                    rintro e w5_ ⟨rfl, hb_⟩
                    have hX2 := HX.out.below hb_
                    have m0 : w5_.cell? ⟨BS, 0, none⟩ = some (.int .u64 z0) := (hX2.at (.tail _ (.head _))).cell 0
                    have m1 : w5_.cell? ⟨BS, 1, none⟩ = some (.int .u64 z1) := (hX2.at (.tail _ (.head _))).cell 1
                    have m2 : w5_.cell? ⟨BS, 2, none⟩ = some (.int .u64 z2) := (hX2.at (.tail _ (.head _))).cell 2
                    have m3 : w5_.cell? ⟨BS, 3, none⟩ = some (.int .u64 z3) := (hX2.at (.tail _ (.head _))).cell 3
                    have f0 := (hX2.at (.tail _ (.head _))).frozen 0
                    have f1 := (hX2.at (.tail _ (.head _))).frozen 1
                    have f2 := (hX2.at (.tail _ (.head _))).frozen 2
                    have f3 := (hX2.at (.tail _ (.head _))).frozen 3
                    have HX_ := Lib.hid ((XY.die4 u0 u1 u2 u3 hX2.swap HBD.out.2.1 (ne2 HBD.out.2.2.1 HBD.out.2.2.2)).swap)
                    clear hb_ hX2 HX HC n0 n1_ n2 n3 c0 hLL hMM
                    have HX := HX_
                    clear HX_
                    go_upto_region 19 with fail
                    clear m0 m1 m2 m3 f0 f1 f2 f3
                    generalize World.setCell _ _ _ = w6_ at HX ⊢
                    go_wp2
                    go_roundw
                    case rel => exact ⟨s, _, [y0, y1, y2, y3], [u0, u1, u2, u3], (s : Int) - 1, by omega, by omega, by go_num, HHN.out, HNEWD.out, HNEW.out, Lib.hid (HX.out.mono (k' := 30000) (n' := 100 + 100 * (256 - s)) (Nat.le_refl _) (by omega))⟩
                    case measure => simp [intOf] <;> omega
                  · have qn : (v - 1 != IntKind.i64.wrap (v - 1)) = false := by rw [HW.out]; simp
                    have q2 : (v == 2) = false := by simp [v2]
                    have q3 : (v == 3) = false := by simp [v3]
                    go_wp2
                    go_roundw
                    case rel => exact ⟨s, _, D, S, (s : Int) - 1, by omega, by omega, by go_num, HHN.out, from_same HFD.out (by rw [HV.out]; unfold dieP; rw [decide_eq_false (by omega)]), from_same HFS.out (by rw [HV.out]; unfold stP; rw [decide_eq_false v3]), Lib.hid (HX.out.mono (k' := 30000) (n' := 100 + 100 * (256 - s)) (Nat.le_refl _) (by omega))⟩
                    case measure => simp [intOf] <;> omega
            · obtain rfl : v = 0 := by omega
              have HHN := Lib.hid (half_same HHF.out HV.out)
              go_upto_region 22 with fail
              have HTC := Lib.hid (xy_card1 (HX.out.below (bel_drew (Below.refl _ _))) (s : Int))
              rw [card_H s M hs256, HV.out, show (0 : Int) - 1 = -1 from rfl] at HTC
              go_region_held3 (fun wy => wy.cell? ⟨BH, s, none⟩ = some (.int .i64 0))
                (first | exact c0 | exact HV.out ▸ Arr.int (HX5.out.at (.tail _ (.tail _ (.head _)))) hlen)
                ((go_at_call 20; refine HTC.out.mono ?_; rintro e w4_ ⟨rfl, hb_⟩; have HX5 := Lib.hid (HX.out.below (fb_call (bel_drew (Below.refl _ _)) hb_)); clear hb_))
              all_goals
                clear HX c0
                have HX := HX5
                clear HX5
                have c0 : w4_.cell? ⟨BH, s, none⟩ = some (.int .i64 0) := by rw [← HV.out]; exact Arr.int (HX.out.at (.tail _ (.tail _ (.head _)))) hlen
                go_wp2
                go_roundw
                case rel => exact ⟨s, _, D, S, (s : Int) - 1, by omega, by omega, by go_num, HHN.out, from_same HFD.out (by rw [HV.out]; rfl), from_same HFS.out (by rw [HV.out]; rfl), Lib.hid (HX.out.mono (k' := 30000) (n' := 100 + 100 * (256 - s)) (Nat.le_refl _) (by omega))⟩
                case measure => simp [intOf] <;> omega
          · obtain rfl : iv = -1 := by omega
            obtain rfl : r = 0 := by omega
            have HX := hst
            clear hst
            have hsx := finds_sets HA.out HX.out.gb hD hS
            have hsy := finds_sets HFA.out HX.out.gf (half_all hh hD) (half_all hh hS)
            obtain ⟨x0, x1, x2, x3, hx, _⟩ := wf_form hD.1
            obtain ⟨z0, z1, z2, z3, hz, _⟩ := wf_form hS.1
            subst hx hz
            have HSX := Lib.hid hsx
            have HSY := Lib.hid hsy
            clear hsx hsy hh hD hS hge
            have HC1 := Lib.hid (show ∀ W : World, XY wx W b 30000 M f (100 + 100 * (256 - 0)) N [(BD, 48, uc [x0, x1, x2, x3]), (BS, 48, uc [z0, z1, z2, z3]), (BH, 30, M.H.map (Value.int .i64))] → Calls Tryd.prog 26 #[.pointer (some ⟨b.X, 0, none⟩), .int .i64 3, .int .i64 2] W fun e w' => e = .returned (.agg #[.int .u64 x0, .int .u64 x1, .int .u64 x2, .int .u64 x3]) ∧ Below W.heap.size W w' from fun W h => by have := xy_having1 h 3 2 (wf_lit (by decide)); rw [HSX.out.1, show svL [x0, x1, x2, x3] = .agg #[.int .u64 x0, .int .u64 x1, .int .u64 x2, .int .u64 x3] from rfl] at this; exact this)
            have HC2 := Lib.hid (show ∀ W : World, XY wx W b 30000 M f (100 + 100 * (256 - 0)) N [(BD, 48, uc [x0, x1, x2, x3]), (BS, 48, uc [z0, z1, z2, z3]), (BH, 30, M.H.map (Value.int .i64))] → Calls Tryd.prog 26 #[.pointer (some ⟨f.X, 0, none⟩), .int .i64 3, .int .i64 2] W fun e w' => e = .returned (.agg #[.int .u64 x0, .int .u64 x1, .int .u64 x2, .int .u64 x3]) ∧ Below W.heap.size W w' from fun W h => by have := xy_having2 h 3 2 (wf_lit (by decide)); rw [HSY.out.1, show svL [x0, x1, x2, x3] = .agg #[.int .u64 x0, .int .u64 x1, .int .u64 x2, .int .u64 x3] from rfl] at this; exact this)
            have HC3 := Lib.hid (show ∀ W : World, XY wx W b 30000 M f (100 + 100 * (256 - 0)) N [(BD, 48, uc [x0, x1, x2, x3]), (BS, 48, uc [z0, z1, z2, z3]), (BH, 30, M.H.map (Value.int .i64))] → Calls Tryd.prog 26 #[.pointer (some ⟨b.X, 0, none⟩), .int .i64 4, .int .i64 0] W fun e w' => e = .returned (.agg #[.int .u64 z0, .int .u64 z1, .int .u64 z2, .int .u64 z3]) ∧ Below W.heap.size W w' from fun W h => by have := xy_having1 h 4 0 (wf_lit (by decide)); rw [HSX.out.2.1, show svL [z0, z1, z2, z3] = .agg #[.int .u64 z0, .int .u64 z1, .int .u64 z2, .int .u64 z3] from rfl] at this; exact this)
            have HC4 := Lib.hid (show ∀ W : World, XY wx W b 30000 M f (100 + 100 * (256 - 0)) N [(BD, 48, uc [x0, x1, x2, x3]), (BS, 48, uc [z0, z1, z2, z3]), (BH, 30, M.H.map (Value.int .i64))] → Calls Tryd.prog 26 #[.pointer (some ⟨f.X, 0, none⟩), .int .i64 4, .int .i64 0] W fun e w' => e = .returned (.agg #[.int .u64 z0, .int .u64 z1, .int .u64 z2, .int .u64 z3]) ∧ Below W.heap.size W w' from fun W h => by have := xy_having2 h 4 0 (wf_lit (by decide)); rw [HSY.out.2.1, show svL [z0, z1, z2, z3] = .agg #[.int .u64 z0, .int .u64 z1, .int .u64 z2, .int .u64 z3] from rfl] at this; exact this)
            have HC5 := Lib.hid (show ∀ W : World, XY wx W b 30000 M f (100 + 100 * (256 - 0)) N [(BD, 48, uc [x0, x1, x2, x3]), (BS, 48, uc [z0, z1, z2, z3]), (BH, 30, M.H.map (Value.int .i64))] → Calls Tryd.prog 26 #[.pointer (some ⟨b.X, 0, none⟩), .int .i64 5, .int .i64 2] W fun e w' => e = .returned (.agg #[.int .u64 0, .int .u64 0, .int .u64 0, .int .u64 0]) ∧ Below W.heap.size W w' from fun W h => by have := xy_having1 h 5 2 (wf_lit (by decide)); rw [HSX.out.2.2, show svL [0, 0, 0, 0] = .agg #[.int .u64 0, .int .u64 0, .int .u64 0, .int .u64 0] from rfl] at this; exact this)
            go_upto_region 28 with fail
            have HD := Lib.hid (HX.out.below (bel_drew (Below.refl _ _)))
            clear HX HSX HSY
            go_region_held3 (fun wy => wy.cell? ⟨BD, 0, none⟩ = some (.int .u64 x0) ∧ wy.cell? ⟨BD, 1, none⟩ = some (.int .u64 x1) ∧ wy.cell? ⟨BD, 2, none⟩ = some (.int .u64 x2) ∧ wy.cell? ⟨BD, 3, none⟩ = some (.int .u64 x3) ∧ wy.cell? ⟨BS, 0, none⟩ = some (.int .u64 z0) ∧ wy.cell? ⟨BS, 1, none⟩ = some (.int .u64 z1) ∧ wy.cell? ⟨BS, 2, none⟩ = some (.int .u64 z2) ∧ wy.cell? ⟨BS, 3, none⟩ = some (.int .u64 z3))
              (exact ⟨(HD.out.at (.head _)).cell 0, (HD.out.at (.head _)).cell 1, (HD.out.at (.head _)).cell 2, (HD.out.at (.head _)).cell 3, (HD.out.at (.tail _ (.head _))).cell 0, (HD.out.at (.tail _ (.head _))).cell 1, (HD.out.at (.tail _ (.head _))).cell 2, (HD.out.at (.tail _ (.head _))).cell 3⟩)
              (first
                | (go_at_call 26; refine (HC1.out _ HD.out).mono ?_; rintro e wn ⟨rfl, hb_⟩; have HD2 := Lib.hid (HD.out.below hb_); clear HD hb_; have HD := HD2; clear HD2)
                | (go_at_call 26; refine (HC2.out _ HD.out).mono ?_; rintro e wn ⟨rfl, hb_⟩; have HD2 := Lib.hid (HD.out.below hb_); clear HD hb_; have HD := HD2; clear HD2)
                | (go_at_call 26; refine (HC3.out _ HD.out).mono ?_; rintro e wn ⟨rfl, hb_⟩; have HD2 := Lib.hid (HD.out.below hb_); clear HD hb_; have HD := HD2; clear HD2)
                | (go_at_call 26; refine (HC4.out _ HD.out).mono ?_; rintro e wn ⟨rfl, hb_⟩; have HD2 := Lib.hid (HD.out.below hb_); clear HD hb_; have HD := HD2; clear HD2)
                | (go_at_call 26; refine (HC5.out _ HD.out).mono ?_; rintro e wn ⟨rfl, hb_⟩; have HD2 := Lib.hid (HD.out.below hb_); clear HD hb_; have HD := HD2; clear HD2))
            all_goals
              have HBB2 := Lib.hid (fb_call HBX.out HD.out.bel)
              go_wp2
              go_ret
              exact ⟨rfl, HBB2.out⟩
end
section
open Go.ChangeShapes Go.WideShapes Go.ChangeAt Go.RowKit

theorem indexFinds_own : ownKnob Tryd.prog.godebug = none := by kernel_rfl
theorem indexFinds_laidOut : laidOutB Tryd.prog = true := by kernel_rfl
theorem indexFinds_door (os : Os) (args : Array Value) : laidMetH Tryd.prog Rows.indexFindsRow.laid ((World.doorLaid Tryd.prog 400 os).forCall (fun _ _ => 0) ⟨#[], args, []⟩).memory :=
  laidMetH_of_parts3 (fuel := 8) (laidMet_of_run' 8 (by kernel_rfl) (by kernel_rfl)) (by kernel_rfl) (by kernel_rfl)

set_option maxHeartbeats 1000000 in
set_option maxRecDepth 100000 in
theorem indexFinds_lifted (os : Os) (started : os.Started) (H : Type) (enc : TypeId × Value → H) :
    ReturnsInHanded {} Tryd.checked os 4 .any (fun w args => (Rows.indexFindsSpec.pre enc Tryd.prog Tryd.f4 [] false w args ∧ laidMetH Tryd.prog Rows.indexFindsRow.laid w) ∧ sizedMet enc Tryd.prog Tryd.f4 (OpenSpec.ofChange Rows.indexFindsSpec) false w args)
      (Rows.indexFindsSpec.post enc Tryd.prog Tryd.f4 false true false false) := by
  refine returnsInHanded_of_change_and (C := Tryd.checked) (X := fun w _ => laidMetH Tryd.prog Rows.indexFindsRow.laid w) (fun _ _ _ hh h => h.of_heap hh) indexFinds_own started (by kernel_rfl) Tryd.func4
    (ChangeSpec.witness_shaped (enc := enc) (C := Tryd.checked) (os := os) (X := fun w _ => laidMetH Tryd.prog Rows.indexFindsRow.laid w) false (World.doorLaid Tryd.prog 400 os) #[.slice none 0 0] 8 rfl (World.shaped_of_RefB (by kernel_rfl) (by kernel_rfl)) (by kernel_rfl) (by kernel_rfl) (by kernel_rfl) (indexFinds_door os _)) ?_
  intro W base args ds gs before hval0 hW _ _ hL _
  have hval : ∀ (j : Nat) t v, Tryd.f4.params[j]? = some t → args[j]? = some v → Value.okWide Tryd.prog W .any base t v := hval0
  have hW' := hW
  obtain ⟨p, q, hA0, hV, rfl, hfz, hnd⟩ := hW
  have hA : DataW.TrodAll enc Tryd.prog W 0 (fun _ => true) true Tryd.f4.params.toList args.toList ds p := hA0
  obtain ⟨hT, h0⟩ := tab_at hL
  rw [Tryd.params4] at hA hval
  obtain ⟨v0, vs0, d0, ds0, p0, q0, hargs, rfl, rfl, h1, r0⟩ := trodAll_cons hA
  obtain ⟨rfl, rfl, rfl⟩ := trodAll_nil r0
  obtain rfl : args = #[v0] := by cases args; simp_all
  obtain ⟨rfl, rfl⟩ := trodVars_none hV
  have k0 := h1
  have lt0 : ∀ x ∈ p0, x.block < W.heap.size := by obtain ⟨m, hm⟩ := k0; exact DataW.trod_lt m _ _ _ hm
  obtain ⟨aa0, len0, cap0, F0, K0, rfl, hlc0, hmx0, hN0⟩ := open_puts (hval 0 55 v0 rfl rfl) h1
  clear hA0 hval0
  simp only [List.append_nil] at hW'
  refine (indexFinds_walk aa0 len0 cap0 F0 K0 W hN0 (by have := hmx0; unfold maxLen at this; omega) hT h0).mono fun e W' ⟨he, bel⟩ => ?_
  subst he
  exact ⟨_, rfl, _, _, _, [], _, [], hW', trodAll_mk1 (shut_bool Tryd.underlying4 _), (trodAll_cons_mk (Below.trod indexFinds_laidOut (by kernel_rfl) (of_decide_eq_true (by kernel_rfl)) k0 bel lt0) trodAll_mk0), rfl, bel.frame _, fun h => by cases h⟩

theorem indexFinds_over : Rows.indexFindsRow.holds Tryd.pinned (OpenSpec.ofChange Rows.indexFindsSpec) :=
  OpenClaim.holds_of_wide 4 Tryd.f4 rfl rfl rfl rfl rfl rfl rfl ⟨rfl, rfl, rfl, rfl, rfl⟩ rfl rfl rfl rfl rfl (by kernel_rfl) Tryd.func4 (by kernel_rfl)
    (of_decide_eq_true (by kernel_rfl)) (by unfold Func.isWrapper; first | (rw [if_pos (by decide +kernel)]; kernel_rfl) | (rw [if_neg (by decide +kernel)]; exact ⟨rfl, rfl⟩))
    (fun os started H enc _ => indexFinds_lifted os started H enc)

/-- The statement: the card. -/
theorem indexFinds_holds : Rows.IndexFindsCardSaid :=
  Claim7.holds_tied_plain_at .later [] [.data] true (true, "c08c0475929537c4a01b2b11778c43a327459d9606bd3bdc0458533daab6a0cd") false
    indexFinds_over (fun _ h => by cases h) (by kernel_rfl) (fun _ h => by cases h) indexFinds_row_tie rfl ⟨rfl, rfl⟩ (by kernel_rfl) rfl
    (fun f fn hf hfn => by
      obtain rfl : f = 4 := Option.some.inj ((show Tryd.prog.funcNamed "trefoil/trefoillaw26.IndexFinds" = some 4 by kernel_rfl).symm.trans hf) |>.symm
      obtain rfl : fn = Tryd.f4 := (Option.some.inj (Tryd.func4.symm.trans hfn)).symm
      exact ⟨by kernel_rfl, fun j t ht => by
        rw [Tryd.params4] at ht
        have hm : t ∈ [55] := by simpa using Array.mem_of_getElem? ht
        have hall : ([55].all fun u => !Tryd.prog.wantsStandIn u) = true := by kernel_rfl
        exact (show Tryd.prog.wantsStandIn t = false by simpa using List.all_eq_true.1 hall t hm)⟩)
    (by kernel_rfl)
#print axioms indexFinds_holds
end
end Go.Proofs.YtcgadmeagbcbnaaDoor
