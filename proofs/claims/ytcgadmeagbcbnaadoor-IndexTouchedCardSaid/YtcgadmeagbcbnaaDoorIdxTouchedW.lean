/- The walk of IndexTouched. No condition but the library's table. -/
import Derived.Test.YtcgadmeagbcbnaaDoorIdxX
import Derived.Test.YtcgadmeagbcbnaaDoorOpenN
namespace Go.Proofs.YtcgadmeagbcbnaaDoor
open Go.RowKit
attribute [local irreducible] Calls

theorem put_zero {abs : List (List (Int × Int))} {m : IM} (h : IGood abs m) (s c : Int) : (putI abs s c m).Z 0 = m.Z 0 := by
  unfold putI; split
  · rename_i hh; exact (good_hold h (by have := hh.1.2; have := hh.1.1; omega) (by omega) (by omega)).2
  · rfl
theorem touch_zero (s : Int) (m : IM) : (touchI s m).Z 0 = addI (m.Z 0) s := upd_at m.Z 0 (addI (m.Z 0) s)
theorem clear_zero (s : Int) (m : IM) : (clearI s m).Z 0 = delI (m.Z 0) s := upd_at m.Z 0 (delI (m.Z 0) s)
theorem take_zero {abs : List (List (Int × Int))} {m : IM} (h : IGood abs m) {s : Int} (hs : inS s) : (takeI abs s m).Z 0 = delI (m.Z 0) s := by
  unfold takeI
  rw [if_pos hs]
  show upd (putM abs s.toNat 0 m).Z 0 (delI ((putM abs s.toNat 0 m).Z 0) s) 0 = _
  rw [upd_at, show (putM abs s.toNat 0 m).Z 0 = m.Z 0 from (good_hold h (by have := hs.2; have := hs.1; omega) (by omega) (by omega)).2]
theorem XB.set4 {w0 w : World} {k : Nat} {b : IB} {q : List Int × List (Int × Int)} {m : IM} {B x0 x1 x2 x3 y0 y1 y2 y3 : Nat} {t : TypeId} (h : XB w0 w b k q m [(B, t, uc [x0, x1, x2, x3])]) (hB : w0.heap.size ≤ B) :
    XB w0 ((((w.setCell ⟨B, 0, none⟩ (.int .u64 y0)).setCell ⟨B, 1, none⟩ (.int .u64 y1)).setCell ⟨B, 2, none⟩ (.int .u64 y2)).setCell ⟨B, 3, none⟩ (.int .u64 y3)) b k q m [(B, t, uc [y0, y1, y2, y3])] :=
  (((h.set hB (fun _ h => by cases h) 0 (.int .u64 y0)).set hB (fun _ h => by cases h) 1 (.int .u64 y1)).set hB (fun _ h => by cases h) 2 (.int .u64 y2)).set hB (fun _ h => by cases h) 3 (.int .u64 y3)
set_option maxRecDepth 100000 in
set_option maxHeartbeats 8000000 in
theorem indexTouched_walk (aa : Option Addr) (len cap : Nat) (F : Nat → Int) (w : World) (hN : Nums w w.heap.size .u16 (.slice aa len cap) len F) (hlm : len ≤ 9223372036854775807) (hT : TabAt w) (h0 : 0 < w.heap.size) :
    Calls Tryd.prog 6 #[.slice aa len cap] w fun e w' => e = .returned (.bool true) ∧ Below w.heap.size w w' := by
  have HTT := Lib.hid (And.intro hT h0)
  obtain ⟨a', c', e1, hlc, _, hc⟩ := hN
  injection e1 with e1 _ e2
  subst e1 e2
  have HL := Lib.hid hc
  clear hT h0 hc
  obtain ⟨wi, hwi⟩ : ∃ wo : World, wo = w := ⟨_, rfl⟩
  go_enter Tryd.func6, Tryd.ntmps6
  go_wp2_with fail
  refine (works_any w HTT.out.1 HTT.out.2).mono ?_
  rintro e wz_ ⟨rfl, hbz_⟩
  have HBZ := Lib.hid hbz_
  clear hbz_ hwi
  go_wp2_with fail
  refine (tr_new wz_).mono ?_
  rintro e wa_ ⟨rfl, hT0_⟩
  have HT1 := Lib.hid (hT0_ w HBZ.out)
  obtain ⟨T, hTn_⟩ : ∃ T, wz_.heap.size = T := ⟨_, rfl⟩
  have HTN := Lib.hid hTn_
  rw [hTn_] at HT1 ⊢
  clear hT0_ hTn_
  go_wp2_with fail
  refine (three_any wa_).mono ?_
  rintro e wb_ ⟨u_, vs_, rfl, hp_⟩
  have HP_ := Lib.hid hp_
  clear hp_
  go_wp2_with fail
  refine (inew_any (w0 := w) (col := fun j => if j < w.heap.size then 0 else 1) (c := 1) (HT1.out.1.below HP_.out.bel) (fun j hj => if_neg (Nat.not_lt.2 (HT1.out.1.base hj).1)) (by simp) (by simp) HP_.out.cards abs3_len abs3_five abs3_wf (fun _ => True) trivial (fun _ _ _ _ _ _ => trivial)).mono ?_
  rintro e wc_ ⟨b, q, rfl, hbT_, hba_, _, _, hN_⟩
  have HBT := Lib.hid hbT_
  have HA := Lib.hid hba_
  obtain ⟨M0_, hM0_⟩ : ∃ m, M0 = m := ⟨_, rfl⟩
  have hn0_ : IS w wc_ (recol wb_.heap.size (fun j => if j < w.heap.size then 0 else 1) 1) 1 b 100 q M0 := hN_.1.mono (n := 100) (by simp)
  have hg0_ := good_zero b.abs
  rw [hM0_] at hn0_ hg0_
  have HS := Lib.hid hn0_
  have HG := Lib.hid hg0_
  have HM0_ := Lib.hid hM0_
  clear hbT_ hba_ hN_ hM0_ HT1 HP_ hn0_ hg0_
  have HX := Lib.hid (show XB w wc_ b 100 q M0_ [] from ⟨HG.out, _, HS.out, fun x hx => by cases hx⟩)
  clear HS
  go_wp2
  obtain ⟨B, hB⟩ : ∃ B, wc_.heap.size = B := ⟨_, rfl⟩
  have HX0 := Lib.hid (HX.out.box 48 (uc [0, 0, 0, 0]))
  have hM00 : M0_.Z 0 = [0, 0, 0, 0] := by rw [← HM0_.out]; rfl
  have HBB := Lib.hid (show w.heap.size ≤ B from by rw [← hB]; exact HX.out.bel.size)
  rw [hB] at HX0 ⊢
  have HX1 : Hid (XB w (wc_.alloc (.cells #[.int .u64 0, .int .u64 0, .int .u64 0, .int .u64 0] 48)) b 100 q M0_ [(B, 48, uc (M0_.Z 0))]) := by rw [hM00]; exact HX0
  clear HX HX0 HG hB hM00
  go_loopw [5] (fun x wr => ∃ (i : Nat) (M_ : IM), i ≤ len ∧ i ≤ 100 ∧ x = .int .i64 i ∧ Hid (XB w wr b (100 + 200 * i) q M_ [(B, 48, uc (M_.Z 0))])) (fun x _ => len - (intOf x).toNat)
  case atStart => exact ⟨0, M0_, Nat.zero_le _, by omega, rfl, HX1⟩
  case round =>
    obtain ⟨i, M_, hi, hi100, rfl, HX⟩ := hrel
    clear HX1
    by_cases hlt : i < len
    · by_cases h100 : i < 100
      · obtain ⟨bk, o, rfl, hbk, hcell⟩ := HL.out.resolve_left (by omega)
        obtain ⟨hc0, hwf0⟩ := hcell i hlt
        obtain ⟨yz, hyz⟩ : ∃ z, F i = z := ⟨_, rfl⟩
        rw [hyz] at hc0 hwf0
        have hyb : 0 ≤ yz ∧ yz ≤ 65535 := by simp [Lit.wf, IntKind.min, IntKind.max, IntKind.signed, IntKind.bits] at hwf0; omega
        obtain ⟨y, rfl⟩ := Int.eq_ofNat_of_zero_le hyb.1
        have hy2 : y ≤ 65535 := by omega
        have hcy : wr.cell? ⟨bk, o + i, none⟩ = some (.int .u16 (y : Int)) := (HX.out.bel.cell (p := ⟨bk, o + i, none⟩) hbk).trans hc0
        obtain ⟨d, hd⟩ : ∃ d, y / 4 = d := ⟨_, rfl⟩
        obtain ⟨sl, hsl⟩ : ∃ sl, d % 256 = sl := ⟨_, rfl⟩
        obtain ⟨c4, hc4⟩ : ∃ c, y % 4 = c := ⟨_, rfl⟩
        have e1 : (y : Int) / 4 = (d : Int) := by omega
        have e2 : (d : Int) % 256 = (sl : Int) := by omega
        have e3 : (y : Int) % 4 = (c4 : Int) := by omega
        have hs256 : inS (sl : Int) := ⟨by omega, by omega⟩
        have i00 : (0 : Int) ≤ i := by omega
        have i01 : (i : Int) < len := by omega
        have i02 : (i : Int) < 100 := by omega
        have y0_ : (0 : Int) ≤ y := by omega
        have y1_ : (y : Int) ≤ 65535 := by omega
        have d0_ : (0 : Int) ≤ d := by omega
        have d1_ : (d : Int) ≤ 16383 := by omega
        have s0_ : (0 : Int) ≤ sl := by omega
        have s1_ : (sl : Int) < 256 := by omega
        have HCY := Lib.hid hcy
        have HG := Lib.hid HX.out.good
        have c4b : c4 < 4 := by omega
        clear hcell hc0 hwf0 hyz hyb hd hsl hc4 hbk
        by_cases hc0 : c4 = 0
        · subst hc0
          go_wp2_with fail
          refine (xb_touch HX.out (by omega) (sl : Int)).mono ?_
          rintro e w1_ ⟨rfl, h1_⟩
          have HX1_ := Lib.hid h1_
          clear h1_ HX
          have HX := HX1_
          clear HX1_
          obtain ⟨x0, x1, x2, x3, hx, _⟩ := wf_form (HG.out.wf 0 (by omega))
          obtain ⟨y0, y1, y2, y3, hy, _⟩ := wf_form (wf_addI (HG.out.wf 0 (by omega)) (sl : Int))
          have HC := Lib.hid (badd_any (HG.out.wf 0 (by omega)) (sl : Int))
          have hZ : (touchI (sl : Int) M_).Z 0 = [y0, y1, y2, y3] := (touch_zero _ _).trans hy
          have HZ := Lib.hid hZ
          rw [hy, hx] at HC
          rw [show svL [x0, x1, x2, x3] = .agg #[.int .u64 x0, .int .u64 x1, .int .u64 x2, .int .u64 x3] from rfl, show svL [y0, y1, y2, y3] = .agg #[.int .u64 y0, .int .u64 y1, .int .u64 y2, .int .u64 y3] from rfl] at HC
          rw [hx] at HX
          have n0 : w1_.cell? ⟨B, 0, none⟩ = some (.int .u64 x0) := (HX.out.at (List.mem_singleton.2 rfl)).cell 0
          have n1 : w1_.cell? ⟨B, 1, none⟩ = some (.int .u64 x1) := (HX.out.at (List.mem_singleton.2 rfl)).cell 1
          have n2 : w1_.cell? ⟨B, 2, none⟩ = some (.int .u64 x2) := (HX.out.at (List.mem_singleton.2 rfl)).cell 2
          have n3 : w1_.cell? ⟨B, 3, none⟩ = some (.int .u64 x3) := (HX.out.at (List.mem_singleton.2 rfl)).cell 3
          clear hx hy hZ
          go_wp2_with fail
          refine (HC.out _).mono ?_
          rintro e w2_ ⟨rfl, hb_⟩
          have hX2 := HX.out.below hb_
          have m0 : w2_.cell? ⟨B, 0, none⟩ = some (.int .u64 x0) := (hX2.at (List.mem_singleton.2 rfl)).cell 0
          have m1 : w2_.cell? ⟨B, 1, none⟩ = some (.int .u64 x1) := (hX2.at (List.mem_singleton.2 rfl)).cell 1
          have m2 : w2_.cell? ⟨B, 2, none⟩ = some (.int .u64 x2) := (hX2.at (List.mem_singleton.2 rfl)).cell 2
          have m3 : w2_.cell? ⟨B, 3, none⟩ = some (.int .u64 x3) := (hX2.at (List.mem_singleton.2 rfl)).cell 3
          have f0 := (hX2.at (List.mem_singleton.2 rfl)).frozen 0
          have f1 := (hX2.at (List.mem_singleton.2 rfl)).frozen 1
          have f2 := (hX2.at (List.mem_singleton.2 rfl)).frozen 2
          have f3 := (hX2.at (List.mem_singleton.2 rfl)).frozen 3
          have HX4 := Lib.hid (XB.set4 (y0 := y0) (y1 := y1) (y2 := y2) (y3 := y3) hX2 HBB.out)
          clear hb_ hX2 HX HC n0 n1 n2 n3
          go_upto_region 23 with fail
          clear m0 m1 m2 m3 f0 f1 f2 f3
          generalize World.setCell _ _ _ = w3_ at HX4 ⊢
          have g0 : w3_.cell? ⟨B, 0, none⟩ = some (.int .u64 y0) := (HX4.out.at (List.mem_singleton.2 rfl)).cell 0
          have g1 : w3_.cell? ⟨B, 1, none⟩ = some (.int .u64 y1) := (HX4.out.at (List.mem_singleton.2 rfl)).cell 1
          have g2 : w3_.cell? ⟨B, 2, none⟩ = some (.int .u64 y2) := (HX4.out.at (List.mem_singleton.2 rfl)).cell 2
          have g3 : w3_.cell? ⟨B, 3, none⟩ = some (.int .u64 y3) := (HX4.out.at (List.mem_singleton.2 rfl)).cell 3
          have HTC := Lib.hid (xb_touched (HX4.out.below (bel_drew (Below.refl _ _))))
          rw [HZ.out, show svL [y0, y1, y2, y3] = .agg #[.int .u64 y0, .int .u64 y1, .int .u64 y2, .int .u64 y3] from rfl] at HTC
          go_region_held3 (fun wy => wy.cell? ⟨B, 0, none⟩ = some (.int .u64 y0) ∧ wy.cell? ⟨B, 1, none⟩ = some (.int .u64 y1) ∧ wy.cell? ⟨B, 2, none⟩ = some (.int .u64 y2) ∧ wy.cell? ⟨B, 3, none⟩ = some (.int .u64 y3))
            (first | exact ⟨g0, g1, g2, g3⟩ | exact ⟨(HX5.out.at (List.mem_singleton.2 rfl)).cell 0, (HX5.out.at (List.mem_singleton.2 rfl)).cell 1, (HX5.out.at (List.mem_singleton.2 rfl)).cell 2, (HX5.out.at (List.mem_singleton.2 rfl)).cell 3⟩)
            ((go_at_call 23; refine HTC.out.mono ?_; rintro e w4_ ⟨rfl, hb_⟩; have HX5 := Lib.hid (HX4.out.below (fb_call (bel_drew (Below.refl _ _)) hb_)); clear hb_))
          all_goals
            go_wp2
            go_roundw
            case rel => exact ⟨i + 1, touchI (sl : Int) M_, by omega, by omega, by go_num, by rw [HZ.out]; exact Lib.hid (HX5.out.mono (by omega))⟩
            case measure => simp [intOf]; omega
        · by_cases hc1 : c4 = 1
          · subst hc1
            go_wp2_with fail
            refine (xb_touch HX.out (by omega) (sl : Int)).mono ?_
            rintro e w1_ ⟨rfl, h1_⟩
            have HX1_ := Lib.hid h1_
            clear h1_ HX
            have HX := HX1_
            clear HX1_
            obtain ⟨x0, x1, x2, x3, hx, _⟩ := wf_form (HG.out.wf 0 (by omega))
            obtain ⟨y0, y1, y2, y3, hy, _⟩ := wf_form (wf_addI (HG.out.wf 0 (by omega)) (sl : Int))
            have HC := Lib.hid (badd_any (HG.out.wf 0 (by omega)) (sl : Int))
            have hZ : (touchI (sl : Int) M_).Z 0 = [y0, y1, y2, y3] := (touch_zero _ _).trans hy
            have HZ := Lib.hid hZ
            rw [hy, hx] at HC
            rw [show svL [x0, x1, x2, x3] = .agg #[.int .u64 x0, .int .u64 x1, .int .u64 x2, .int .u64 x3] from rfl, show svL [y0, y1, y2, y3] = .agg #[.int .u64 y0, .int .u64 y1, .int .u64 y2, .int .u64 y3] from rfl] at HC
            rw [hx] at HX
            have n0 : w1_.cell? ⟨B, 0, none⟩ = some (.int .u64 x0) := (HX.out.at (List.mem_singleton.2 rfl)).cell 0
            have n1 : w1_.cell? ⟨B, 1, none⟩ = some (.int .u64 x1) := (HX.out.at (List.mem_singleton.2 rfl)).cell 1
            have n2 : w1_.cell? ⟨B, 2, none⟩ = some (.int .u64 x2) := (HX.out.at (List.mem_singleton.2 rfl)).cell 2
            have n3 : w1_.cell? ⟨B, 3, none⟩ = some (.int .u64 x3) := (HX.out.at (List.mem_singleton.2 rfl)).cell 3
            clear hx hy hZ
            go_wp2_with fail
            refine (HC.out _).mono ?_
            rintro e w2_ ⟨rfl, hb_⟩
            have hX2 := HX.out.below hb_
            have m0 : w2_.cell? ⟨B, 0, none⟩ = some (.int .u64 x0) := (hX2.at (List.mem_singleton.2 rfl)).cell 0
            have m1 : w2_.cell? ⟨B, 1, none⟩ = some (.int .u64 x1) := (hX2.at (List.mem_singleton.2 rfl)).cell 1
            have m2 : w2_.cell? ⟨B, 2, none⟩ = some (.int .u64 x2) := (hX2.at (List.mem_singleton.2 rfl)).cell 2
            have m3 : w2_.cell? ⟨B, 3, none⟩ = some (.int .u64 x3) := (hX2.at (List.mem_singleton.2 rfl)).cell 3
            have f0 := (hX2.at (List.mem_singleton.2 rfl)).frozen 0
            have f1 := (hX2.at (List.mem_singleton.2 rfl)).frozen 1
            have f2 := (hX2.at (List.mem_singleton.2 rfl)).frozen 2
            have f3 := (hX2.at (List.mem_singleton.2 rfl)).frozen 3
            have HX4 := Lib.hid (XB.set4 (y0 := y0) (y1 := y1) (y2 := y2) (y3 := y3) hX2 HBB.out)
            clear hb_ hX2 HX HC n0 n1 n2 n3
            go_upto_region 23 with fail
            clear m0 m1 m2 m3 f0 f1 f2 f3
            generalize World.setCell _ _ _ = w3_ at HX4 ⊢
            have g0 : w3_.cell? ⟨B, 0, none⟩ = some (.int .u64 y0) := (HX4.out.at (List.mem_singleton.2 rfl)).cell 0
            have g1 : w3_.cell? ⟨B, 1, none⟩ = some (.int .u64 y1) := (HX4.out.at (List.mem_singleton.2 rfl)).cell 1
            have g2 : w3_.cell? ⟨B, 2, none⟩ = some (.int .u64 y2) := (HX4.out.at (List.mem_singleton.2 rfl)).cell 2
            have g3 : w3_.cell? ⟨B, 3, none⟩ = some (.int .u64 y3) := (HX4.out.at (List.mem_singleton.2 rfl)).cell 3
            have HTC := Lib.hid (xb_touched (HX4.out.below (bel_drew (Below.refl _ _))))
            rw [HZ.out, show svL [y0, y1, y2, y3] = .agg #[.int .u64 y0, .int .u64 y1, .int .u64 y2, .int .u64 y3] from rfl] at HTC
            go_region_held3 (fun wy => wy.cell? ⟨B, 0, none⟩ = some (.int .u64 y0) ∧ wy.cell? ⟨B, 1, none⟩ = some (.int .u64 y1) ∧ wy.cell? ⟨B, 2, none⟩ = some (.int .u64 y2) ∧ wy.cell? ⟨B, 3, none⟩ = some (.int .u64 y3))
              (first | exact ⟨g0, g1, g2, g3⟩ | exact ⟨(HX5.out.at (List.mem_singleton.2 rfl)).cell 0, (HX5.out.at (List.mem_singleton.2 rfl)).cell 1, (HX5.out.at (List.mem_singleton.2 rfl)).cell 2, (HX5.out.at (List.mem_singleton.2 rfl)).cell 3⟩)
              ((go_at_call 23; refine HTC.out.mono ?_; rintro e w4_ ⟨rfl, hb_⟩; have HX5 := Lib.hid (HX4.out.below (fb_call (bel_drew (Below.refl _ _)) hb_)); clear hb_))
            all_goals
              go_wp2
              go_roundw
              case rel => exact ⟨i + 1, touchI (sl : Int) M_, by omega, by omega, by go_num, by rw [HZ.out]; exact Lib.hid (HX5.out.mono (by omega))⟩
              case measure => simp [intOf]; omega
          · by_cases hc2 : c4 = 2
            · subst hc2
              go_wp2_with fail
              refine (xb_clear HX.out (by omega) (sl : Int)).mono ?_
              rintro e w1_ ⟨rfl, h1_⟩
              have HX1_ := Lib.hid h1_
              clear h1_ HX
              have HX := HX1_
              clear HX1_
              obtain ⟨x0, x1, x2, x3, hx, _⟩ := wf_form (HG.out.wf 0 (by omega))
              obtain ⟨y0, y1, y2, y3, hy, _⟩ := wf_form (wf_delI (HG.out.wf 0 (by omega)) (sl : Int))
              have HC := Lib.hid (bdel_any (HG.out.wf 0 (by omega)) (sl : Int))
              have hZ : (clearI (sl : Int) M_).Z 0 = [y0, y1, y2, y3] := (clear_zero _ _).trans hy
              have HZ := Lib.hid hZ
              rw [hy, hx] at HC
              rw [show svL [x0, x1, x2, x3] = .agg #[.int .u64 x0, .int .u64 x1, .int .u64 x2, .int .u64 x3] from rfl, show svL [y0, y1, y2, y3] = .agg #[.int .u64 y0, .int .u64 y1, .int .u64 y2, .int .u64 y3] from rfl] at HC
              rw [hx] at HX
              have n0 : w1_.cell? ⟨B, 0, none⟩ = some (.int .u64 x0) := (HX.out.at (List.mem_singleton.2 rfl)).cell 0
              have n1 : w1_.cell? ⟨B, 1, none⟩ = some (.int .u64 x1) := (HX.out.at (List.mem_singleton.2 rfl)).cell 1
              have n2 : w1_.cell? ⟨B, 2, none⟩ = some (.int .u64 x2) := (HX.out.at (List.mem_singleton.2 rfl)).cell 2
              have n3 : w1_.cell? ⟨B, 3, none⟩ = some (.int .u64 x3) := (HX.out.at (List.mem_singleton.2 rfl)).cell 3
              clear hx hy hZ
              go_wp2_with fail
              refine (HC.out _).mono ?_
              rintro e w2_ ⟨rfl, hb_⟩
              have hX2 := HX.out.below hb_
              have m0 : w2_.cell? ⟨B, 0, none⟩ = some (.int .u64 x0) := (hX2.at (List.mem_singleton.2 rfl)).cell 0
              have m1 : w2_.cell? ⟨B, 1, none⟩ = some (.int .u64 x1) := (hX2.at (List.mem_singleton.2 rfl)).cell 1
              have m2 : w2_.cell? ⟨B, 2, none⟩ = some (.int .u64 x2) := (hX2.at (List.mem_singleton.2 rfl)).cell 2
              have m3 : w2_.cell? ⟨B, 3, none⟩ = some (.int .u64 x3) := (hX2.at (List.mem_singleton.2 rfl)).cell 3
              have f0 := (hX2.at (List.mem_singleton.2 rfl)).frozen 0
              have f1 := (hX2.at (List.mem_singleton.2 rfl)).frozen 1
              have f2 := (hX2.at (List.mem_singleton.2 rfl)).frozen 2
              have f3 := (hX2.at (List.mem_singleton.2 rfl)).frozen 3
              have HX4 := Lib.hid (XB.set4 (y0 := y0) (y1 := y1) (y2 := y2) (y3 := y3) hX2 HBB.out)
              clear hb_ hX2 HX HC n0 n1 n2 n3
              go_upto_region 23 with fail
              clear m0 m1 m2 m3 f0 f1 f2 f3
              generalize World.setCell _ _ _ = w3_ at HX4 ⊢
              have g0 : w3_.cell? ⟨B, 0, none⟩ = some (.int .u64 y0) := (HX4.out.at (List.mem_singleton.2 rfl)).cell 0
              have g1 : w3_.cell? ⟨B, 1, none⟩ = some (.int .u64 y1) := (HX4.out.at (List.mem_singleton.2 rfl)).cell 1
              have g2 : w3_.cell? ⟨B, 2, none⟩ = some (.int .u64 y2) := (HX4.out.at (List.mem_singleton.2 rfl)).cell 2
              have g3 : w3_.cell? ⟨B, 3, none⟩ = some (.int .u64 y3) := (HX4.out.at (List.mem_singleton.2 rfl)).cell 3
              have HTC := Lib.hid (xb_touched (HX4.out.below (bel_drew (Below.refl _ _))))
              rw [HZ.out, show svL [y0, y1, y2, y3] = .agg #[.int .u64 y0, .int .u64 y1, .int .u64 y2, .int .u64 y3] from rfl] at HTC
              go_region_held3 (fun wy => wy.cell? ⟨B, 0, none⟩ = some (.int .u64 y0) ∧ wy.cell? ⟨B, 1, none⟩ = some (.int .u64 y1) ∧ wy.cell? ⟨B, 2, none⟩ = some (.int .u64 y2) ∧ wy.cell? ⟨B, 3, none⟩ = some (.int .u64 y3))
                (first | exact ⟨g0, g1, g2, g3⟩ | exact ⟨(HX5.out.at (List.mem_singleton.2 rfl)).cell 0, (HX5.out.at (List.mem_singleton.2 rfl)).cell 1, (HX5.out.at (List.mem_singleton.2 rfl)).cell 2, (HX5.out.at (List.mem_singleton.2 rfl)).cell 3⟩)
                ((go_at_call 23; refine HTC.out.mono ?_; rintro e w4_ ⟨rfl, hb_⟩; have HX5 := Lib.hid (HX4.out.below (fb_call (bel_drew (Below.refl _ _)) hb_)); clear hb_))
              all_goals
                go_wp2
                go_roundw
                case rel => exact ⟨i + 1, clearI (sl : Int) M_, by omega, by omega, by go_num, by rw [HZ.out]; exact Lib.hid (HX5.out.mono (by omega))⟩
                case measure => simp [intOf]; omega
            · obtain rfl : c4 = 3 := by omega
              clear hc0 hc1 hc2
              obtain ⟨d10, hd10⟩ : ∃ d, y / 1024 = d := ⟨_, rfl⟩
              obtain ⟨d11, hd11⟩ : ∃ d, y / 2048 = d := ⟨_, rfl⟩
              obtain ⟨pc, hpc⟩ : ∃ p, d11 % 4 = p := ⟨_, rfl⟩
              obtain ⟨pb, hpb⟩ : ∃ p, d10 % 2 = p := ⟨_, rfl⟩
              have e4 : (y : Int) / 1024 = (d10 : Int) := by omega
              have e5 : (y : Int) / 2048 = (d11 : Int) := by omega
              have e6 : (d11 : Int) % 4 = (pc : Int) := by omega
              have e7 : (d10 : Int) % 2 = (pb : Int) := by omega
              have z0_ : (0 : Int) ≤ d10 := by omega
              have z1_ : (0 : Int) ≤ d11 := by omega
              have z2_ : (d10 : Int) ≤ 63 := by omega
              have z3_ : (d11 : Int) ≤ 31 := by omega
              have pb2 : pb < 2 := by omega
              clear hd10 hd11 hpc hpb
              by_cases hp : pb = 0
              · subst hp
                go_wp2_with fail
                refine (xb_put HX.out (by omega) (sl : Int) (pc : Int)).mono ?_
                rintro e w1_ ⟨rfl, h1_⟩
                have HX1_ := Lib.hid h1_
                clear h1_ HX
                have HX := HX1_
                clear HX1_
                obtain ⟨y0, y1, y2, y3, hy, _⟩ := wf_form (HG.out.wf 0 (by omega))
                have hZ : (putI b.abs (sl : Int) (pc : Int) M_).Z 0 = [y0, y1, y2, y3] := (put_zero HG.out _ _).trans hy
                have HZ := Lib.hid hZ
                rw [hy] at HX
                have HX4 := HX
                clear hy hZ HX
                go_upto_region 23 with fail
                obtain ⟨w3_, rfl⟩ : ∃ wo : World, wo = w1_ := ⟨_, rfl⟩
                have g0 : w3_.cell? ⟨B, 0, none⟩ = some (.int .u64 y0) := (HX4.out.at (List.mem_singleton.2 rfl)).cell 0
                have g1 : w3_.cell? ⟨B, 1, none⟩ = some (.int .u64 y1) := (HX4.out.at (List.mem_singleton.2 rfl)).cell 1
                have g2 : w3_.cell? ⟨B, 2, none⟩ = some (.int .u64 y2) := (HX4.out.at (List.mem_singleton.2 rfl)).cell 2
                have g3 : w3_.cell? ⟨B, 3, none⟩ = some (.int .u64 y3) := (HX4.out.at (List.mem_singleton.2 rfl)).cell 3
                have HTC := Lib.hid (xb_touched (HX4.out.below (bel_drew (Below.refl _ _))))
                rw [HZ.out, show svL [y0, y1, y2, y3] = .agg #[.int .u64 y0, .int .u64 y1, .int .u64 y2, .int .u64 y3] from rfl] at HTC
                go_region_held3 (fun wy => wy.cell? ⟨B, 0, none⟩ = some (.int .u64 y0) ∧ wy.cell? ⟨B, 1, none⟩ = some (.int .u64 y1) ∧ wy.cell? ⟨B, 2, none⟩ = some (.int .u64 y2) ∧ wy.cell? ⟨B, 3, none⟩ = some (.int .u64 y3))
                  (first | exact ⟨g0, g1, g2, g3⟩ | exact ⟨(HX5.out.at (List.mem_singleton.2 rfl)).cell 0, (HX5.out.at (List.mem_singleton.2 rfl)).cell 1, (HX5.out.at (List.mem_singleton.2 rfl)).cell 2, (HX5.out.at (List.mem_singleton.2 rfl)).cell 3⟩)
                  ((go_at_call 23; refine HTC.out.mono ?_; rintro e w4_ ⟨rfl, hb_⟩; have HX5 := Lib.hid (HX4.out.below (fb_call (bel_drew (Below.refl _ _)) hb_)); clear hb_))
                all_goals
                  go_wp2
                  go_roundw
                  case rel => exact ⟨i + 1, putI b.abs (sl : Int) (pc : Int) M_, by omega, by omega, by go_num, by rw [HZ.out]; exact Lib.hid (HX5.out.mono (by omega))⟩
                  case measure => simp [intOf]; omega
              · obtain rfl : pb = 1 := by omega
                clear hp
                go_wp2_with fail
                refine (xb_take HX.out (by omega) (sl : Int)).mono ?_
                rintro e w1_ ⟨rfl, h1_⟩
                have HX1_ := Lib.hid h1_
                clear h1_ HX
                have HX := HX1_
                clear HX1_
                obtain ⟨x0, x1, x2, x3, hx, _⟩ := wf_form (HG.out.wf 0 (by omega))
                obtain ⟨y0, y1, y2, y3, hy, _⟩ := wf_form (wf_delI (HG.out.wf 0 (by omega)) (sl : Int))
                have HC := Lib.hid (bdel_any (HG.out.wf 0 (by omega)) (sl : Int))
                have hZ : (takeI b.abs (sl : Int) M_).Z 0 = [y0, y1, y2, y3] := (take_zero HG.out hs256).trans hy
                have HZ := Lib.hid hZ
                rw [hy, hx] at HC
                rw [show svL [x0, x1, x2, x3] = .agg #[.int .u64 x0, .int .u64 x1, .int .u64 x2, .int .u64 x3] from rfl, show svL [y0, y1, y2, y3] = .agg #[.int .u64 y0, .int .u64 y1, .int .u64 y2, .int .u64 y3] from rfl] at HC
                rw [hx] at HX
                have n0 : w1_.cell? ⟨B, 0, none⟩ = some (.int .u64 x0) := (HX.out.at (List.mem_singleton.2 rfl)).cell 0
                have n1 : w1_.cell? ⟨B, 1, none⟩ = some (.int .u64 x1) := (HX.out.at (List.mem_singleton.2 rfl)).cell 1
                have n2 : w1_.cell? ⟨B, 2, none⟩ = some (.int .u64 x2) := (HX.out.at (List.mem_singleton.2 rfl)).cell 2
                have n3 : w1_.cell? ⟨B, 3, none⟩ = some (.int .u64 x3) := (HX.out.at (List.mem_singleton.2 rfl)).cell 3
                clear hx hy hZ
                go_wp2_with fail
                refine (HC.out _).mono ?_
                rintro e w2_ ⟨rfl, hb_⟩
                have hX2 := HX.out.below hb_
                have m0 : w2_.cell? ⟨B, 0, none⟩ = some (.int .u64 x0) := (hX2.at (List.mem_singleton.2 rfl)).cell 0
                have m1 : w2_.cell? ⟨B, 1, none⟩ = some (.int .u64 x1) := (hX2.at (List.mem_singleton.2 rfl)).cell 1
                have m2 : w2_.cell? ⟨B, 2, none⟩ = some (.int .u64 x2) := (hX2.at (List.mem_singleton.2 rfl)).cell 2
                have m3 : w2_.cell? ⟨B, 3, none⟩ = some (.int .u64 x3) := (hX2.at (List.mem_singleton.2 rfl)).cell 3
                have f0 := (hX2.at (List.mem_singleton.2 rfl)).frozen 0
                have f1 := (hX2.at (List.mem_singleton.2 rfl)).frozen 1
                have f2 := (hX2.at (List.mem_singleton.2 rfl)).frozen 2
                have f3 := (hX2.at (List.mem_singleton.2 rfl)).frozen 3
                have HX4 := Lib.hid (XB.set4 (y0 := y0) (y1 := y1) (y2 := y2) (y3 := y3) hX2 HBB.out)
                clear hb_ hX2 HX HC n0 n1 n2 n3
                go_upto_region 23 with fail
                clear m0 m1 m2 m3 f0 f1 f2 f3
                generalize World.setCell _ _ _ = w3_ at HX4 ⊢
                have g0 : w3_.cell? ⟨B, 0, none⟩ = some (.int .u64 y0) := (HX4.out.at (List.mem_singleton.2 rfl)).cell 0
                have g1 : w3_.cell? ⟨B, 1, none⟩ = some (.int .u64 y1) := (HX4.out.at (List.mem_singleton.2 rfl)).cell 1
                have g2 : w3_.cell? ⟨B, 2, none⟩ = some (.int .u64 y2) := (HX4.out.at (List.mem_singleton.2 rfl)).cell 2
                have g3 : w3_.cell? ⟨B, 3, none⟩ = some (.int .u64 y3) := (HX4.out.at (List.mem_singleton.2 rfl)).cell 3
                have HTC := Lib.hid (xb_touched (HX4.out.below (bel_drew (Below.refl _ _))))
                rw [HZ.out, show svL [y0, y1, y2, y3] = .agg #[.int .u64 y0, .int .u64 y1, .int .u64 y2, .int .u64 y3] from rfl] at HTC
                go_region_held3 (fun wy => wy.cell? ⟨B, 0, none⟩ = some (.int .u64 y0) ∧ wy.cell? ⟨B, 1, none⟩ = some (.int .u64 y1) ∧ wy.cell? ⟨B, 2, none⟩ = some (.int .u64 y2) ∧ wy.cell? ⟨B, 3, none⟩ = some (.int .u64 y3))
                  (first | exact ⟨g0, g1, g2, g3⟩ | exact ⟨(HX5.out.at (List.mem_singleton.2 rfl)).cell 0, (HX5.out.at (List.mem_singleton.2 rfl)).cell 1, (HX5.out.at (List.mem_singleton.2 rfl)).cell 2, (HX5.out.at (List.mem_singleton.2 rfl)).cell 3⟩)
                  ((go_at_call 23; refine HTC.out.mono ?_; rintro e w4_ ⟨rfl, hb_⟩; have HX5 := Lib.hid (HX4.out.below (fb_call (bel_drew (Below.refl _ _)) hb_)); clear hb_))
                all_goals
                  go_wp2
                  go_roundw
                  case rel => exact ⟨i + 1, takeI b.abs (sl : Int) M_, by omega, by omega, by go_num, by rw [HZ.out]; exact Lib.hid (HX5.out.mono (by omega))⟩
                  case measure => simp [intOf]; omega
      · obtain rfl : i = 100 := by omega
        have i01 : (100 : Int) < len := by omega
        have HB := Lib.hid HX.out.bel
        clear HX
        go_wp2
        go_ret
        exact ⟨rfl, HB.out⟩
    · obtain rfl : i = len := by omega
      have HB := Lib.hid HX.out.bel
      clear HX
      go_wp2
      go_ret
      exact ⟨rfl, HB.out⟩
end Go.Proofs.YtcgadmeagbcbnaaDoor
