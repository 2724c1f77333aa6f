/- The walk of TrailPlays. No condition. -/
import Derived.Test.YtfkkkndigkchcaaTrailPlQ
import Derived.Test.YtfkkkndigkchcaaQTail
import Derived.Test.YtfkkkndigkchcaaOpenA
namespace Go.Proofs.Ytfkkkndigkchcaa
open Go.ChangeShapes Go.WideShapes Go.ChangeAt Go.RowKit
attribute [local irreducible] Calls

def iminT (x y : Int) : Int := if y < x then y else x
set_option maxRecDepth 100000 in
set_option maxHeartbeats 4000000 in
theorem trailPlays_walk (a : Option Addr) (len cap : Nat) (F : Nat → Nat → Int) (w : World) (hR : Rws w w.heap.size .i64 3 (.slice a len cap) len F) (hl : (len : Int) ≤ 9223372036854775807) :
    Calls Try.prog 3 #[.slice a len cap] w fun e w' => e = .returned (.bool true) ∧ Below w.heap.size w w' := by
  have HR := Lib.hid hR
  clear hR
  go_enter Try.func3, Try.ntmps3
  go_wp2_with fail
  refine (tr_new w).mono ?_
  rintro e w1 ⟨rfl, hT0⟩
  have hT := (hT0 w (Below.refl _ _)).1
  have HQ0 := Lib.hid (pl_start hT)
  clear hT0 hT
  go_wp2_with fail
  refine (rnew_any w1).mono ?_
  rintro e w2 ⟨rfl, rfl⟩
  obtain ⟨R, hRR⟩ : ∃ R, w1.heap.size + 2 = R := ⟨_, rfl⟩
  obtain ⟨T, hT⟩ : ∃ T, w.heap.size = T := ⟨_, rfl⟩
  obtain ⟨W0, hW0⟩ : ∃ W0, rnewW w1 = W0 := ⟨_, rfl⟩
  have HQ := Lib.hid (show QN w W0 T R ([], []) ([], []) from by
    obtain ⟨col, h⟩ := HQ0.out
    rw [hRR, hT, hW0] at h
    exact ⟨col, _, _, _, _, h, rfl, fun m hm => by
      have : m = 0 := by simpa using hm
      subst this; rfl⟩)
  rw [hRR, hT, hW0]
  clear hRR hT hW0 HQ0
  go_wp2
  go_loopw [5] (fun x wr => ∃ i : Nat, i ≤ len ∧ i ≤ 120 ∧ x = .int .i64 i ∧ Hid (∃ ts, QN w wr T R ts ts ∧ ts.1.length ≤ 12 * i ∧ ts.2.length ≤ i)) (fun x _ => len - (intOf x).toNat)
  case atStart => exact ⟨0, Nat.zero_le _, by omega, rfl, Lib.hid ⟨_, HQ.out, by simp, by simp⟩⟩
  case round =>
    obtain ⟨i, hil, hi120, rfl, hst⟩ := hrel
    by_cases hlt : i < len
    · by_cases h120 : i < 120
      · obtain ⟨a', c', e, _, _, hcells⟩ := HR.out
        injection e with e1 e2 e3
        subst e1 e3
        obtain ⟨B, o, rfl, hb, hcells⟩ := hcells.resolve_left (by omega)
        obtain ⟨ts, hQ, hc1, hh1⟩ := hst.out
        have hbw := hQ.bel
        obtain ⟨x0, hx0⟩ : ∃ x, F i 0 = x := ⟨_, rfl⟩
        obtain ⟨x1, hx1⟩ : ∃ x, F i 1 = x := ⟨_, rfl⟩
        obtain ⟨x2, hx2⟩ : ∃ x, F i 2 = x := ⟨_, rfl⟩
        have hx := hcells i hlt 0 (by omega)
        have hy := hcells i hlt 1 (by omega)
        have hz := hcells i hlt 2 (by omega)
        rw [hx0] at hx
        rw [hx1] at hy
        rw [hx2] at hz
        have cx : wr.cell? ⟨B, o + i * 3, none⟩ = some (.int .i64 x0) := (hbw.cell (p := ⟨B, o + i * 3, none⟩) hb).trans hx.1
        have cy : wr.cell? ⟨B, o + i * 3 + 1, none⟩ = some (.int .i64 x1) := (hbw.cell (p := ⟨B, o + i * 3 + 1, none⟩) hb).trans hy.1
        have cz : wr.cell? ⟨B, o + i * 3 + 2, none⟩ = some (.int .i64 x2) := (hbw.cell (p := ⟨B, o + i * 3 + 2, none⟩) hb).trans hz.1
        have HX := Lib.hid (And.intro hQ (And.intro hc1 (And.intro hh1 (And.intro hx.2 (And.intro hy.2 hz.2)))))
        have i0 : (0 : Int) ≤ i := by omega
        have i1 : (i : Int) < len := by omega
        have i2 : (i : Int) < 120 := by omega
        clear hst hQ hc1 hh1 hbw hx hy hz hx0 hx1 hx2 hcells hb
        go_upto_region 8 with fail
        obtain ⟨X, hX⟩ : ∃ X, wr.heap.size = X := ⟨_, rfl⟩
        obtain ⟨wa, hwa⟩ : ∃ wa, wr.alloc (.cells #[.int .i64 x0, .int .i64 x1, .int .i64 x2] 28) = wa := ⟨_, rfl⟩
        have HQ1 := Lib.hid (show QQ w wa T R X [.int .i64 x0, .int .i64 x1, .int .i64 x2] ts ts from by
          rw [← hwa, ← hX]
          exact HX.out.1.act (fb_alloc (Below.refl _ _) _) (Arr.new wr _ [.int .i64 x0, .int .i64 x1, .int .i64 x2]) (Nat.le_refl _))
        rw [hwa, hX]
        have c0 : wa.cell? ⟨X, 0, none⟩ = some (.int .i64 x0) := HQ1.out.box.cell 0
        have c1 : wa.cell? ⟨X, 1, none⟩ = some (.int .i64 x1) := HQ1.out.box.cell 1
        have c2 : wa.cell? ⟨X, 2, none⟩ = some (.int .i64 x2) := HQ1.out.box.cell 2
        have HB := Lib.hid (show ts.1.length ≤ 12 * i ∧ ts.2.length ≤ i from ⟨HX.out.2.1, HX.out.2.2.1⟩)
        have hts := HQ1.out.tlen
        have HTS := Lib.hid hts
        have hn2b : ts.2.length ≤ 1000000 := by have := HB.out.2; omega
        have HN2 := Lib.hid hn2b
        clear hwa hX hts hn2b cx cy cz
        by_cases h0 : x0 = 0
        · subst h0
          by_cases hbig : 1048576 < x1
          · have hno : ¬ canA ts.1 x1 := by unfold canA; omega
            have HNO := Lib.hid hno
            clear hno
            go_wp2_with fail
            refine (q_talloc_no HQ1.out x1 HNO.out).mono ?_
            rintro e w' ⟨rfl, rfl⟩
            go_wp2_with fail
            refine (q_ralloc_no HQ1.out x1 HNO.out HN2.out HTS.out).mono ?_
            rintro e wn ⟨rfl, hb⟩
            have HQ := Lib.hid (HQ1.out.below hb)
            clear hb HQ1 c0 c1 c2
            have hbb : ts.1.length ≤ 12 * (i + 1) ∧ ts.2.length ≤ i + 1 := by have := HB.out; omega
            have HBB := Lib.hid hbb
            have hn2b : (ts).2.length ≤ 1000000 := by have := HBB.out.2; omega
            obtain ⟨w5, rfl⟩ : ∃ wo : World, wo = wn := ⟨_, rfl⟩
            obtain ⟨tt, htt⟩ : ∃ tt, ts = tt := ⟨_, rfl⟩
            rw [htt] at HQ HBB hn2b
            clear htt hbb
            have hQ := HQ.out
            obtain ⟨g, c, hnow⟩ := q_rnow hQ hn2b
            obtain ⟨n1, hn1⟩ : ∃ n1, tt.1.length = n1 := ⟨_, rfl⟩
            obtain ⟨n2, hn2⟩ : ∃ n2, tt.2.length = n2 := ⟨_, rfl⟩
            obtain ⟨gz, hgz⟩ : ∃ gz, getZ tt.1 x1 = gz := ⟨_, rfl⟩
            have qm := Lib.hid (fun u => q_tmark (hQ.below (bel_lat0 w5 u)))
            have qrm := Lib.hid (fun u => q_rmark (hQ.below (bel_lat0 w5 u)) hn2b)
            have ql := Lib.hid (fun u => q_tlen (hQ.below (bel_lat0 w5 u)))
            have qn := Lib.hid (fun u => hnow _ (bel_lat0 w5 u))
            have qg := Lib.hid (fun u => q_tget (hQ.below (bel_lat0 w5 u)) x1)
            have qrg := Lib.hid (fun u => q_rget (hQ.below (bel_lat0 w5 u)) hn2b x1)
            have cx1 : ∀ u, (lat w5 u).cell? ⟨X, 1, none⟩ = some (.int .i64 x1) := fun u => (hQ.below (bel_lat0 w5 u)).box.cell 1
            rw [hgz] at qg qrg
            rw [hn1] at ql qn
            rw [hn2] at qm qrm
            have HNN := Lib.hid (And.intro hn1 hn2)
            have HN2B := Lib.hid hn2b
            clear hQ hnow hn1 hn2 hgz hn2b
            go_upto_region 23 with fail
            refine wp_region_lat (by kernel_rfl) (by kernel_rfl) ?_
            repeat (go_big_quiet_step (first | (go_at_call 26; exact quiet_lat_same (qm.out _)) | (go_at_call 27; exact quiet_lat_same (qrm.out _)) | (go_at_call 28; exact quiet_lat_same (ql.out _)) | (go_at_call 29; exact quiet_lat (qn.out _)) | (go_at_call 30; exact quiet_lat_same (qg.out _)) | (go_at_call 31; exact quiet_lat (qrg.out _))))
            refine wpQuiet_nil ?_
            intro _ hw'
            obtain ⟨nu, hw''⟩ := hw'
            subst hw''
            have HQ6 := Lib.hid (HQ.out.below (bel_lat0 w5 nu))
            clear qm qrm ql qn qg qrg cx1
            go_wp2
            obtain ⟨w6, hw6⟩ : ∃ w6, lat w5 nu = w6 := ⟨_, rfl⟩
            rw [hw6] at HQ6 ⊢
            clear hw6
            have hn1b : n1 ≤ 2000000 := by have := HBB.out.1; have := HNN.out.1; omega
            go_loopw [8] (fun x wr => ∃ z : Int, -1 ≤ z ∧ z ≤ (n1 : Int) + 1 ∧ x = .int .i64 z ∧ Hid (∃ xs, QQ w wr T R X xs tt tt)) (fun x _ => ((n1 : Int) + 1 - intOf x).toNat)
            case atStart => exact ⟨-1, by omega, by omega, rfl, Lib.hid ⟨_, HQ6.out⟩⟩
            case round =>
              obtain ⟨z, hz0, hz1, rfl, hQ7x⟩ := hrel
              obtain ⟨xs7, hQ7y⟩ := hQ7x.out
              have hQ7 := Lib.hid hQ7y
              clear hQ7x hQ7y
              obtain ⟨w7, rfl⟩ : ∃ wo : World, wo = wr := ⟨_, rfl⟩
              have ql0 := q_tlen hQ7.out
              rw [HNN.out.1] at ql0
              have ql := Lib.hid ql0
              clear ql0
              by_cases hzn : z ≤ n1
              · have qg := Lib.hid (q_tget hQ7.out z)
                have qrg := Lib.hid (q_rget hQ7.out HN2B.out z)
                obtain ⟨gy, hgy⟩ : ∃ gy, getZ tt.1 z = gy := ⟨_, rfl⟩
                rw [hgy] at qg qrg
                clear hgy
                go_wp2_with (first | (go_at_call 28; refine ql.out.mono ?_; rintro e w' ⟨rfl, rfl⟩) | (go_at_call 30; refine qg.out.mono ?_; rintro e w' ⟨rfl, rfl⟩) | (go_at_call 31; refine qrg.out.mono ?_; rintro e w8 ⟨rfl, hb⟩))
                have HQ8 := Lib.hid (hQ7.out.below hb)
                clear hb
                go_roundw
                case rel => first | exact ⟨z + 1, by omega, by omega, by go_num, Lib.hid ⟨_, HQ8.out⟩⟩ | ((repeat apply Exists.intro); exact ⟨⟨z + 1, by omega, by omega, by go_num, Lib.hid ⟨_, HQ8.out⟩⟩, rfl⟩)
                case measure => simp [intOf]; omega
              · go_wp2_with (go_at_call 28; refine ql.out.mono ?_; rintro e w' ⟨rfl, rfl⟩)
                go_roundw
                case rel => first | exact ⟨i + 1, by omega, by omega, by go_num, Lib.hid ⟨tt, hQ7.out.rest, HBB.out.1, HBB.out.2⟩⟩ | ((repeat apply Exists.intro); exact ⟨⟨i + 1, by omega, by omega, by go_num, Lib.hid ⟨tt, hQ7.out.rest, HBB.out.1, HBB.out.2⟩⟩, rfl⟩)
                case measure => simp [intOf]; omega
          · by_cases hlow : x1 < 1
            · have hno : ¬ canA ts.1 x1 := by unfold canA; omega
              have HNO := Lib.hid hno
              clear hno
              go_wp2_with fail
              refine (q_talloc_no HQ1.out x1 HNO.out).mono ?_
              rintro e w' ⟨rfl, rfl⟩
              go_wp2_with fail
              refine (q_ralloc_no HQ1.out x1 HNO.out HN2.out HTS.out).mono ?_
              rintro e wn ⟨rfl, hb⟩
              have HQ := Lib.hid (HQ1.out.below hb)
              clear hb HQ1 c0 c1 c2
              have hbb : ts.1.length ≤ 12 * (i + 1) ∧ ts.2.length ≤ i + 1 := by have := HB.out; omega
              have HBB := Lib.hid hbb
              have hn2b : (ts).2.length ≤ 1000000 := by have := HBB.out.2; omega
              obtain ⟨w5, rfl⟩ : ∃ wo : World, wo = wn := ⟨_, rfl⟩
              obtain ⟨tt, htt⟩ : ∃ tt, ts = tt := ⟨_, rfl⟩
              rw [htt] at HQ HBB hn2b
              clear htt hbb
              have hQ := HQ.out
              obtain ⟨g, c, hnow⟩ := q_rnow hQ hn2b
              obtain ⟨n1, hn1⟩ : ∃ n1, tt.1.length = n1 := ⟨_, rfl⟩
              obtain ⟨n2, hn2⟩ : ∃ n2, tt.2.length = n2 := ⟨_, rfl⟩
              obtain ⟨gz, hgz⟩ : ∃ gz, getZ tt.1 x1 = gz := ⟨_, rfl⟩
              have qm := Lib.hid (fun u => q_tmark (hQ.below (bel_lat0 w5 u)))
              have qrm := Lib.hid (fun u => q_rmark (hQ.below (bel_lat0 w5 u)) hn2b)
              have ql := Lib.hid (fun u => q_tlen (hQ.below (bel_lat0 w5 u)))
              have qn := Lib.hid (fun u => hnow _ (bel_lat0 w5 u))
              have qg := Lib.hid (fun u => q_tget (hQ.below (bel_lat0 w5 u)) x1)
              have qrg := Lib.hid (fun u => q_rget (hQ.below (bel_lat0 w5 u)) hn2b x1)
              have cx1 : ∀ u, (lat w5 u).cell? ⟨X, 1, none⟩ = some (.int .i64 x1) := fun u => (hQ.below (bel_lat0 w5 u)).box.cell 1
              rw [hgz] at qg qrg
              rw [hn1] at ql qn
              rw [hn2] at qm qrm
              have HNN := Lib.hid (And.intro hn1 hn2)
              have HN2B := Lib.hid hn2b
              clear hQ hnow hn1 hn2 hgz hn2b
              go_upto_region 23 with fail
              refine wp_region_lat (by kernel_rfl) (by kernel_rfl) ?_
              repeat (go_big_quiet_step (first | (go_at_call 26; exact quiet_lat_same (qm.out _)) | (go_at_call 27; exact quiet_lat_same (qrm.out _)) | (go_at_call 28; exact quiet_lat_same (ql.out _)) | (go_at_call 29; exact quiet_lat (qn.out _)) | (go_at_call 30; exact quiet_lat_same (qg.out _)) | (go_at_call 31; exact quiet_lat (qrg.out _))))
              refine wpQuiet_nil ?_
              intro _ hw'
              obtain ⟨nu, hw''⟩ := hw'
              subst hw''
              have HQ6 := Lib.hid (HQ.out.below (bel_lat0 w5 nu))
              clear qm qrm ql qn qg qrg cx1
              go_wp2
              obtain ⟨w6, hw6⟩ : ∃ w6, lat w5 nu = w6 := ⟨_, rfl⟩
              rw [hw6] at HQ6 ⊢
              clear hw6
              have hn1b : n1 ≤ 2000000 := by have := HBB.out.1; have := HNN.out.1; omega
              go_loopw [8] (fun x wr => ∃ z : Int, -1 ≤ z ∧ z ≤ (n1 : Int) + 1 ∧ x = .int .i64 z ∧ Hid (∃ xs, QQ w wr T R X xs tt tt)) (fun x _ => ((n1 : Int) + 1 - intOf x).toNat)
              case atStart => exact ⟨-1, by omega, by omega, rfl, Lib.hid ⟨_, HQ6.out⟩⟩
              case round =>
                obtain ⟨z, hz0, hz1, rfl, hQ7x⟩ := hrel
                obtain ⟨xs7, hQ7y⟩ := hQ7x.out
                have hQ7 := Lib.hid hQ7y
                clear hQ7x hQ7y
                obtain ⟨w7, rfl⟩ : ∃ wo : World, wo = wr := ⟨_, rfl⟩
                have ql0 := q_tlen hQ7.out
                rw [HNN.out.1] at ql0
                have ql := Lib.hid ql0
                clear ql0
                by_cases hzn : z ≤ n1
                · have qg := Lib.hid (q_tget hQ7.out z)
                  have qrg := Lib.hid (q_rget hQ7.out HN2B.out z)
                  obtain ⟨gy, hgy⟩ : ∃ gy, getZ tt.1 z = gy := ⟨_, rfl⟩
                  rw [hgy] at qg qrg
                  clear hgy
                  go_wp2_with (first | (go_at_call 28; refine ql.out.mono ?_; rintro e w' ⟨rfl, rfl⟩) | (go_at_call 30; refine qg.out.mono ?_; rintro e w' ⟨rfl, rfl⟩) | (go_at_call 31; refine qrg.out.mono ?_; rintro e w8 ⟨rfl, hb⟩))
                  have HQ8 := Lib.hid (hQ7.out.below hb)
                  clear hb
                  go_roundw
                  case rel => first | exact ⟨z + 1, by omega, by omega, by go_num, Lib.hid ⟨_, HQ8.out⟩⟩ | ((repeat apply Exists.intro); exact ⟨⟨z + 1, by omega, by omega, by go_num, Lib.hid ⟨_, HQ8.out⟩⟩, rfl⟩)
                  case measure => simp [intOf]; omega
                · go_wp2_with (go_at_call 28; refine ql.out.mono ?_; rintro e w' ⟨rfl, rfl⟩)
                  go_roundw
                  case rel => first | exact ⟨i + 1, by omega, by omega, by go_num, Lib.hid ⟨tt, hQ7.out.rest, HBB.out.1, HBB.out.2⟩⟩ | ((repeat apply Exists.intro); exact ⟨⟨i + 1, by omega, by omega, by go_num, Lib.hid ⟨tt, hQ7.out.rest, HBB.out.1, HBB.out.2⟩⟩, rfl⟩)
                  case measure => simp [intOf]; omega
            · by_cases h12 : 12 < x1
              · have hcan : canA ts.1 12 := by unfold canA; have := HB.out.1; omega
                have HCAN := Lib.hid hcan
                clear hcan
                go_wp2_with fail
                refine (q_talloc HQ1.out 12 HCAN.out HN2.out).mono ?_
                rintro e w3 ⟨rfl, hN⟩
                have HQ3 := Lib.hid hN
                clear hN HQ1
                go_wp2_with fail
                refine (q_ralloc HQ3.out 12 HCAN.out HN2.out).mono ?_
                rintro e wn ⟨rfl, hN⟩
                have HQ := Lib.hid hN
                clear hN HQ3 c0 c1 c2
                have hbb : (ts.1 ++ List.replicate ((12 : Int)).toNat 0, ts.2 ++ [((-1 : Int), (12 : Int))]).1.length ≤ 12 * (i + 1) ∧ (ts.1 ++ List.replicate ((12 : Int)).toNat 0, ts.2 ++ [((-1 : Int), (12 : Int))]).2.length ≤ i + 1 := by have := HB.out; simp; omega
                have HBB := Lib.hid hbb
                have hn2b : ((ts.1 ++ List.replicate ((12 : Int)).toNat 0, ts.2 ++ [((-1 : Int), (12 : Int))])).2.length ≤ 1000000 := by have := HBB.out.2; omega
                obtain ⟨w5, rfl⟩ : ∃ wo : World, wo = wn := ⟨_, rfl⟩
                obtain ⟨tt, htt⟩ : ∃ tt, (ts.1 ++ List.replicate ((12 : Int)).toNat 0, ts.2 ++ [((-1 : Int), (12 : Int))]) = tt := ⟨_, rfl⟩
                rw [htt] at HQ HBB hn2b
                clear htt hbb
                have hQ := HQ.out
                obtain ⟨g, c, hnow⟩ := q_rnow hQ hn2b
                obtain ⟨n1, hn1⟩ : ∃ n1, tt.1.length = n1 := ⟨_, rfl⟩
                obtain ⟨n2, hn2⟩ : ∃ n2, tt.2.length = n2 := ⟨_, rfl⟩
                obtain ⟨gz, hgz⟩ : ∃ gz, getZ tt.1 x1 = gz := ⟨_, rfl⟩
                have qm := Lib.hid (fun u => q_tmark (hQ.below (bel_lat0 w5 u)))
                have qrm := Lib.hid (fun u => q_rmark (hQ.below (bel_lat0 w5 u)) hn2b)
                have ql := Lib.hid (fun u => q_tlen (hQ.below (bel_lat0 w5 u)))
                have qn := Lib.hid (fun u => hnow _ (bel_lat0 w5 u))
                have qg := Lib.hid (fun u => q_tget (hQ.below (bel_lat0 w5 u)) x1)
                have qrg := Lib.hid (fun u => q_rget (hQ.below (bel_lat0 w5 u)) hn2b x1)
                have cx1 : ∀ u, (lat w5 u).cell? ⟨X, 1, none⟩ = some (.int .i64 x1) := fun u => (hQ.below (bel_lat0 w5 u)).box.cell 1
                rw [hgz] at qg qrg
                rw [hn1] at ql qn
                rw [hn2] at qm qrm
                have HNN := Lib.hid (And.intro hn1 hn2)
                have HN2B := Lib.hid hn2b
                clear hQ hnow hn1 hn2 hgz hn2b
                go_upto_region 23 with fail
                refine wp_region_lat (by kernel_rfl) (by kernel_rfl) ?_
                repeat (go_big_quiet_step (first | (go_at_call 26; exact quiet_lat_same (qm.out _)) | (go_at_call 27; exact quiet_lat_same (qrm.out _)) | (go_at_call 28; exact quiet_lat_same (ql.out _)) | (go_at_call 29; exact quiet_lat (qn.out _)) | (go_at_call 30; exact quiet_lat_same (qg.out _)) | (go_at_call 31; exact quiet_lat (qrg.out _))))
                refine wpQuiet_nil ?_
                intro _ hw'
                obtain ⟨nu, hw''⟩ := hw'
                subst hw''
                have HQ6 := Lib.hid (HQ.out.below (bel_lat0 w5 nu))
                clear qm qrm ql qn qg qrg cx1
                go_wp2
                obtain ⟨w6, hw6⟩ : ∃ w6, lat w5 nu = w6 := ⟨_, rfl⟩
                rw [hw6] at HQ6 ⊢
                clear hw6
                have hn1b : n1 ≤ 2000000 := by have := HBB.out.1; have := HNN.out.1; omega
                go_loopw [8] (fun x wr => ∃ z : Int, -1 ≤ z ∧ z ≤ (n1 : Int) + 1 ∧ x = .int .i64 z ∧ Hid (∃ xs, QQ w wr T R X xs tt tt)) (fun x _ => ((n1 : Int) + 1 - intOf x).toNat)
                case atStart => exact ⟨-1, by omega, by omega, rfl, Lib.hid ⟨_, HQ6.out⟩⟩
                case round =>
                  obtain ⟨z, hz0, hz1, rfl, hQ7x⟩ := hrel
                  obtain ⟨xs7, hQ7y⟩ := hQ7x.out
                  have hQ7 := Lib.hid hQ7y
                  clear hQ7x hQ7y
                  obtain ⟨w7, rfl⟩ : ∃ wo : World, wo = wr := ⟨_, rfl⟩
                  have ql0 := q_tlen hQ7.out
                  rw [HNN.out.1] at ql0
                  have ql := Lib.hid ql0
                  clear ql0
                  by_cases hzn : z ≤ n1
                  · have qg := Lib.hid (q_tget hQ7.out z)
                    have qrg := Lib.hid (q_rget hQ7.out HN2B.out z)
                    obtain ⟨gy, hgy⟩ : ∃ gy, getZ tt.1 z = gy := ⟨_, rfl⟩
                    rw [hgy] at qg qrg
                    clear hgy
                    go_wp2_with (first | (go_at_call 28; refine ql.out.mono ?_; rintro e w' ⟨rfl, rfl⟩) | (go_at_call 30; refine qg.out.mono ?_; rintro e w' ⟨rfl, rfl⟩) | (go_at_call 31; refine qrg.out.mono ?_; rintro e w8 ⟨rfl, hb⟩))
                    have HQ8 := Lib.hid (hQ7.out.below hb)
                    clear hb
                    go_roundw
                    case rel => first | exact ⟨z + 1, by omega, by omega, by go_num, Lib.hid ⟨_, HQ8.out⟩⟩ | ((repeat apply Exists.intro); exact ⟨⟨z + 1, by omega, by omega, by go_num, Lib.hid ⟨_, HQ8.out⟩⟩, rfl⟩)
                    case measure => simp [intOf]; omega
                  · go_wp2_with (go_at_call 28; refine ql.out.mono ?_; rintro e w' ⟨rfl, rfl⟩)
                    go_roundw
                    case rel => first | exact ⟨i + 1, by omega, by omega, by go_num, Lib.hid ⟨tt, hQ7.out.rest, HBB.out.1, HBB.out.2⟩⟩ | ((repeat apply Exists.intro); exact ⟨⟨i + 1, by omega, by omega, by go_num, Lib.hid ⟨tt, hQ7.out.rest, HBB.out.1, HBB.out.2⟩⟩, rfl⟩)
                    case measure => simp [intOf]; omega
              · have hx1 : 1 ≤ x1 := by omega
                have hx12 : x1 ≤ 12 := by omega
                have hcan : canA ts.1 x1 := by unfold canA; have := HB.out.1; omega
                have HCAN := Lib.hid hcan
                clear hcan
                go_wp2_with fail
                refine (q_talloc HQ1.out x1 HCAN.out HN2.out).mono ?_
                rintro e w3 ⟨rfl, hN⟩
                have HQ3 := Lib.hid hN
                clear hN HQ1
                go_wp2_with fail
                refine (q_ralloc HQ3.out x1 HCAN.out HN2.out).mono ?_
                rintro e wn ⟨rfl, hN⟩
                have HQ := Lib.hid hN
                clear hN HQ3 c0 c1 c2
                have hbb : (ts.1 ++ List.replicate ((x1 : Int)).toNat 0, ts.2 ++ [((-1 : Int), (x1 : Int))]).1.length ≤ 12 * (i + 1) ∧ (ts.1 ++ List.replicate ((x1 : Int)).toNat 0, ts.2 ++ [((-1 : Int), (x1 : Int))]).2.length ≤ i + 1 := by have := HB.out; simp; omega
                have HBB := Lib.hid hbb
                have hn2b : ((ts.1 ++ List.replicate ((x1 : Int)).toNat 0, ts.2 ++ [((-1 : Int), (x1 : Int))])).2.length ≤ 1000000 := by have := HBB.out.2; omega
                obtain ⟨w5, rfl⟩ : ∃ wo : World, wo = wn := ⟨_, rfl⟩
                obtain ⟨tt, htt⟩ : ∃ tt, (ts.1 ++ List.replicate ((x1 : Int)).toNat 0, ts.2 ++ [((-1 : Int), (x1 : Int))]) = tt := ⟨_, rfl⟩
                rw [htt] at HQ HBB hn2b
                clear htt hbb
                have hQ := HQ.out
                obtain ⟨g, c, hnow⟩ := q_rnow hQ hn2b
                obtain ⟨n1, hn1⟩ : ∃ n1, tt.1.length = n1 := ⟨_, rfl⟩
                obtain ⟨n2, hn2⟩ : ∃ n2, tt.2.length = n2 := ⟨_, rfl⟩
                obtain ⟨gz, hgz⟩ : ∃ gz, getZ tt.1 x1 = gz := ⟨_, rfl⟩
                have qm := Lib.hid (fun u => q_tmark (hQ.below (bel_lat0 w5 u)))
                have qrm := Lib.hid (fun u => q_rmark (hQ.below (bel_lat0 w5 u)) hn2b)
                have ql := Lib.hid (fun u => q_tlen (hQ.below (bel_lat0 w5 u)))
                have qn := Lib.hid (fun u => hnow _ (bel_lat0 w5 u))
                have qg := Lib.hid (fun u => q_tget (hQ.below (bel_lat0 w5 u)) x1)
                have qrg := Lib.hid (fun u => q_rget (hQ.below (bel_lat0 w5 u)) hn2b x1)
                have cx1 : ∀ u, (lat w5 u).cell? ⟨X, 1, none⟩ = some (.int .i64 x1) := fun u => (hQ.below (bel_lat0 w5 u)).box.cell 1
                rw [hgz] at qg qrg
                rw [hn1] at ql qn
                rw [hn2] at qm qrm
                have HNN := Lib.hid (And.intro hn1 hn2)
                have HN2B := Lib.hid hn2b
                clear hQ hnow hn1 hn2 hgz hn2b
                go_upto_region 23 with fail
                refine wp_region_lat (by kernel_rfl) (by kernel_rfl) ?_
                repeat (go_big_quiet_step (first | (go_at_call 26; exact quiet_lat_same (qm.out _)) | (go_at_call 27; exact quiet_lat_same (qrm.out _)) | (go_at_call 28; exact quiet_lat_same (ql.out _)) | (go_at_call 29; exact quiet_lat (qn.out _)) | (go_at_call 30; exact quiet_lat_same (qg.out _)) | (go_at_call 31; exact quiet_lat (qrg.out _))))
                refine wpQuiet_nil ?_
                intro _ hw'
                obtain ⟨nu, hw''⟩ := hw'
                subst hw''
                have HQ6 := Lib.hid (HQ.out.below (bel_lat0 w5 nu))
                clear qm qrm ql qn qg qrg cx1
                go_wp2
                obtain ⟨w6, hw6⟩ : ∃ w6, lat w5 nu = w6 := ⟨_, rfl⟩
                rw [hw6] at HQ6 ⊢
                clear hw6
                have hn1b : n1 ≤ 2000000 := by have := HBB.out.1; have := HNN.out.1; omega
                go_loopw [8] (fun x wr => ∃ z : Int, -1 ≤ z ∧ z ≤ (n1 : Int) + 1 ∧ x = .int .i64 z ∧ Hid (∃ xs, QQ w wr T R X xs tt tt)) (fun x _ => ((n1 : Int) + 1 - intOf x).toNat)
                case atStart => exact ⟨-1, by omega, by omega, rfl, Lib.hid ⟨_, HQ6.out⟩⟩
                case round =>
                  obtain ⟨z, hz0, hz1, rfl, hQ7x⟩ := hrel
                  obtain ⟨xs7, hQ7y⟩ := hQ7x.out
                  have hQ7 := Lib.hid hQ7y
                  clear hQ7x hQ7y
                  obtain ⟨w7, rfl⟩ : ∃ wo : World, wo = wr := ⟨_, rfl⟩
                  have ql0 := q_tlen hQ7.out
                  rw [HNN.out.1] at ql0
                  have ql := Lib.hid ql0
                  clear ql0
                  by_cases hzn : z ≤ n1
                  · have qg := Lib.hid (q_tget hQ7.out z)
                    have qrg := Lib.hid (q_rget hQ7.out HN2B.out z)
                    obtain ⟨gy, hgy⟩ : ∃ gy, getZ tt.1 z = gy := ⟨_, rfl⟩
                    rw [hgy] at qg qrg
                    clear hgy
                    go_wp2_with (first | (go_at_call 28; refine ql.out.mono ?_; rintro e w' ⟨rfl, rfl⟩) | (go_at_call 30; refine qg.out.mono ?_; rintro e w' ⟨rfl, rfl⟩) | (go_at_call 31; refine qrg.out.mono ?_; rintro e w8 ⟨rfl, hb⟩))
                    have HQ8 := Lib.hid (hQ7.out.below hb)
                    clear hb
                    go_roundw
                    case rel => first | exact ⟨z + 1, by omega, by omega, by go_num, Lib.hid ⟨_, HQ8.out⟩⟩ | ((repeat apply Exists.intro); exact ⟨⟨z + 1, by omega, by omega, by go_num, Lib.hid ⟨_, HQ8.out⟩⟩, rfl⟩)
                    case measure => simp [intOf]; omega
                  · go_wp2_with (go_at_call 28; refine ql.out.mono ?_; rintro e w' ⟨rfl, rfl⟩)
                    go_roundw
                    case rel => first | exact ⟨i + 1, by omega, by omega, by go_num, Lib.hid ⟨tt, hQ7.out.rest, HBB.out.1, HBB.out.2⟩⟩ | ((repeat apply Exists.intro); exact ⟨⟨i + 1, by omega, by omega, by go_num, Lib.hid ⟨tt, hQ7.out.rest, HBB.out.1, HBB.out.2⟩⟩, rfl⟩)
                    case measure => simp [intOf]; omega
        · by_cases h4 : x0 = 1 ∨ x0 = 2 ∨ x0 = 3 ∨ x0 = 4
          · rcases h4 with rfl | rfl | rfl | rfl
            all_goals
              go_wp2_with fail
              refine (q_tset HQ1.out x1 x2 HN2.out).mono ?_
              rintro e w3 ⟨rfl, hN⟩
              have HQ3 := Lib.hid hN
              clear hN HQ1 c0 c1 c2
              have c1 : w3.cell? ⟨X, 1, none⟩ = some (.int .i64 x1) := HQ3.out.box.cell 1
              have c2 : w3.cell? ⟨X, 2, none⟩ = some (.int .i64 x2) := HQ3.out.box.cell 2
              go_wp2_with fail
              refine (q_rset HQ3.out x1 x2 HN2.out HTS.out).mono ?_
              rintro e wn ⟨rfl, hN⟩
              have HQ := Lib.hid hN
              clear hN HQ3 c1 c2
              have hbb : (setC ts.1 x1 x2, setH ts.1 ts.2 x1 x2).1.length ≤ 12 * (i + 1) ∧ (setC ts.1 x1 x2, setH ts.1 ts.2 x1 x2).2.length ≤ i + 1 := by
                have := HB.out
                have h1 := (setH_len ts.1 ts.2 x1 x2).2
                refine ⟨?_, ?_⟩
                · show (setC ts.1 x1 x2).length ≤ _
                  rw [setC_len]; omega
                · show (setH ts.1 ts.2 x1 x2).length ≤ _
                  omega
              have HBB := Lib.hid hbb
              have hn2b : ((setC ts.1 x1 x2, setH ts.1 ts.2 x1 x2)).2.length ≤ 1000000 := by have := HBB.out.2; omega
              obtain ⟨w5, rfl⟩ : ∃ wo : World, wo = wn := ⟨_, rfl⟩
              obtain ⟨tt, htt⟩ : ∃ tt, (setC ts.1 x1 x2, setH ts.1 ts.2 x1 x2) = tt := ⟨_, rfl⟩
              rw [htt] at HQ HBB hn2b
              clear htt hbb
              have hQ := HQ.out
              obtain ⟨g, c, hnow⟩ := q_rnow hQ hn2b
              obtain ⟨n1, hn1⟩ : ∃ n1, tt.1.length = n1 := ⟨_, rfl⟩
              obtain ⟨n2, hn2⟩ : ∃ n2, tt.2.length = n2 := ⟨_, rfl⟩
              obtain ⟨gz, hgz⟩ : ∃ gz, getZ tt.1 x1 = gz := ⟨_, rfl⟩
              have qm := Lib.hid (fun u => q_tmark (hQ.below (bel_lat0 w5 u)))
              have qrm := Lib.hid (fun u => q_rmark (hQ.below (bel_lat0 w5 u)) hn2b)
              have ql := Lib.hid (fun u => q_tlen (hQ.below (bel_lat0 w5 u)))
              have qn := Lib.hid (fun u => hnow _ (bel_lat0 w5 u))
              have qg := Lib.hid (fun u => q_tget (hQ.below (bel_lat0 w5 u)) x1)
              have qrg := Lib.hid (fun u => q_rget (hQ.below (bel_lat0 w5 u)) hn2b x1)
              have cx1 : ∀ u, (lat w5 u).cell? ⟨X, 1, none⟩ = some (.int .i64 x1) := fun u => (hQ.below (bel_lat0 w5 u)).box.cell 1
              rw [hgz] at qg qrg
              rw [hn1] at ql qn
              rw [hn2] at qm qrm
              have HNN := Lib.hid (And.intro hn1 hn2)
              have HN2B := Lib.hid hn2b
              clear hQ hnow hn1 hn2 hgz hn2b
              go_upto_region 23 with fail
              refine wp_region_lat (by kernel_rfl) (by kernel_rfl) ?_
              repeat (go_big_quiet_step (first | (go_at_call 26; exact quiet_lat_same (qm.out _)) | (go_at_call 27; exact quiet_lat_same (qrm.out _)) | (go_at_call 28; exact quiet_lat_same (ql.out _)) | (go_at_call 29; exact quiet_lat (qn.out _)) | (go_at_call 30; exact quiet_lat_same (qg.out _)) | (go_at_call 31; exact quiet_lat (qrg.out _))))
              refine wpQuiet_nil ?_
              intro _ hw'
              obtain ⟨nu, hw''⟩ := hw'
              subst hw''
              have HQ6 := Lib.hid (HQ.out.below (bel_lat0 w5 nu))
              clear qm qrm ql qn qg qrg cx1
              go_wp2
              obtain ⟨w6, hw6⟩ : ∃ w6, lat w5 nu = w6 := ⟨_, rfl⟩
              rw [hw6] at HQ6 ⊢
              clear hw6
              have hn1b : n1 ≤ 2000000 := by have := HBB.out.1; have := HNN.out.1; omega
              go_loopw [8] (fun x wr => ∃ z : Int, -1 ≤ z ∧ z ≤ (n1 : Int) + 1 ∧ x = .int .i64 z ∧ Hid (∃ xs, QQ w wr T R X xs tt tt)) (fun x _ => ((n1 : Int) + 1 - intOf x).toNat)
              case atStart => exact ⟨-1, by omega, by omega, rfl, Lib.hid ⟨_, HQ6.out⟩⟩
              case round =>
                obtain ⟨z, hz0, hz1, rfl, hQ7x⟩ := hrel
                obtain ⟨xs7, hQ7y⟩ := hQ7x.out
                have hQ7 := Lib.hid hQ7y
                clear hQ7x hQ7y
                obtain ⟨w7, rfl⟩ : ∃ wo : World, wo = wr := ⟨_, rfl⟩
                have ql0 := q_tlen hQ7.out
                rw [HNN.out.1] at ql0
                have ql := Lib.hid ql0
                clear ql0
                by_cases hzn : z ≤ n1
                · have qg := Lib.hid (q_tget hQ7.out z)
                  have qrg := Lib.hid (q_rget hQ7.out HN2B.out z)
                  obtain ⟨gy, hgy⟩ : ∃ gy, getZ tt.1 z = gy := ⟨_, rfl⟩
                  rw [hgy] at qg qrg
                  clear hgy
                  go_wp2_with (first | (go_at_call 28; refine ql.out.mono ?_; rintro e w' ⟨rfl, rfl⟩) | (go_at_call 30; refine qg.out.mono ?_; rintro e w' ⟨rfl, rfl⟩) | (go_at_call 31; refine qrg.out.mono ?_; rintro e w8 ⟨rfl, hb⟩))
                  have HQ8 := Lib.hid (hQ7.out.below hb)
                  clear hb
                  go_roundw
                  case rel => first | exact ⟨z + 1, by omega, by omega, by go_num, Lib.hid ⟨_, HQ8.out⟩⟩ | ((repeat apply Exists.intro); exact ⟨⟨z + 1, by omega, by omega, by go_num, Lib.hid ⟨_, HQ8.out⟩⟩, rfl⟩)
                  case measure => simp [intOf]; omega
                · go_wp2_with (go_at_call 28; refine ql.out.mono ?_; rintro e w' ⟨rfl, rfl⟩)
                  go_roundw
                  case rel => first | exact ⟨i + 1, by omega, by omega, by go_num, Lib.hid ⟨tt, hQ7.out.rest, HBB.out.1, HBB.out.2⟩⟩ | ((repeat apply Exists.intro); exact ⟨⟨i + 1, by omega, by omega, by go_num, Lib.hid ⟨tt, hQ7.out.rest, HBB.out.1, HBB.out.2⟩⟩, rfl⟩)
                  case measure => simp [intOf]; omega
          · have g1 : ¬ (x0 = 1) := fun e => h4 (.inl e)
            have g2 : ¬ (x0 = 2) := fun e => h4 (.inr (.inl e))
            have g3 : ¬ (x0 = 3) := fun e => h4 (.inr (.inr (.inl e)))
            have g4 : ¬ (x0 = 4) := fun e => h4 (.inr (.inr (.inr e)))
            clear h4
            have HD := Lib.hid (HQ1.out.below (w' := wa.drew) ⟨rfl, rfl, rfl, Nat.le_refl _, fun _ _ => rfl⟩)
            by_cases hm : 0 ≤ x1 ∧ x1 ≤ ts.2.length
            · have HM := Lib.hid hm
              have hwas : (was ts.1 ts.2 x1.toNat).length ≤ ts.1.length := backs_len _ _
              have HW := Lib.hid hwas
              clear hm HQ1 hwas
              go_wp2_with fail
              go_region_held3 (fun wy => wy.cell? ⟨X, 1, none⟩ = some (.int .i64 x1)) (exact HD.out.box.cell 1)
                (first
                  | (go_at_call 24; refine (show Calls Try.prog _ _ _ _ from by have := q_tback HD.out x1.toNat (by have := HM.out; omega) HN2.out; rw [Int.toNat_of_nonneg HM.out.1] at this; exact this).mono ?_; rintro e wn ⟨rfl, hN⟩; clear HD; have HD := Lib.hid hN; clear hN)
                  | (go_at_call 25; refine (show Calls Try.prog _ _ _ _ from by have := q_rback HD.out x1.toNat (by have := HM.out; omega) HN2.out; rw [Int.toNat_of_nonneg HM.out.1] at this; exact this).mono ?_; rintro e wn ⟨rfl, hN⟩; clear HD; have HD := Lib.hid hN; clear hN))
              have HQ := HD
              clear HD c0 c1 c2
              have hbb : (was ts.1 ts.2 x1.toNat, ts.2.take x1.toNat).1.length ≤ 12 * (i + 1) ∧ (was ts.1 ts.2 x1.toNat, ts.2.take x1.toNat).2.length ≤ i + 1 := by
                have := HB.out; have := HW.out
                refine ⟨?_, ?_⟩
                · show (was ts.1 ts.2 x1.toNat).length ≤ _; omega
                · show (ts.2.take x1.toNat).length ≤ _; rw [List.length_take]; omega
              have HBB := Lib.hid hbb
              have hn2b : ((was ts.1 ts.2 x1.toNat, ts.2.take x1.toNat)).2.length ≤ 1000000 := by have := HBB.out.2; omega
              obtain ⟨w5, rfl⟩ : ∃ wo : World, wo = wn := ⟨_, rfl⟩
              obtain ⟨tt, htt⟩ : ∃ tt, (was ts.1 ts.2 x1.toNat, ts.2.take x1.toNat) = tt := ⟨_, rfl⟩
              rw [htt] at HQ HBB hn2b
              clear htt hbb
              have hQ := HQ.out
              obtain ⟨g, c, hnow⟩ := q_rnow hQ hn2b
              obtain ⟨n1, hn1⟩ : ∃ n1, tt.1.length = n1 := ⟨_, rfl⟩
              obtain ⟨n2, hn2⟩ : ∃ n2, tt.2.length = n2 := ⟨_, rfl⟩
              obtain ⟨gz, hgz⟩ : ∃ gz, getZ tt.1 x1 = gz := ⟨_, rfl⟩
              have qm := Lib.hid (fun u => q_tmark (hQ.below (bel_lat0 w5 u)))
              have qrm := Lib.hid (fun u => q_rmark (hQ.below (bel_lat0 w5 u)) hn2b)
              have ql := Lib.hid (fun u => q_tlen (hQ.below (bel_lat0 w5 u)))
              have qn := Lib.hid (fun u => hnow _ (bel_lat0 w5 u))
              have qg := Lib.hid (fun u => q_tget (hQ.below (bel_lat0 w5 u)) x1)
              have qrg := Lib.hid (fun u => q_rget (hQ.below (bel_lat0 w5 u)) hn2b x1)
              have cx1 : ∀ u, (lat w5 u).cell? ⟨X, 1, none⟩ = some (.int .i64 x1) := fun u => (hQ.below (bel_lat0 w5 u)).box.cell 1
              rw [hgz] at qg qrg
              rw [hn1] at ql qn
              rw [hn2] at qm qrm
              have HNN := Lib.hid (And.intro hn1 hn2)
              have HN2B := Lib.hid hn2b
              clear hQ hnow hn1 hn2 hgz hn2b
              go_upto_region 23 with fail
              refine wp_region_lat (by kernel_rfl) (by kernel_rfl) ?_
              repeat (go_big_quiet_step (first | (go_at_call 26; exact quiet_lat_same (qm.out _)) | (go_at_call 27; exact quiet_lat_same (qrm.out _)) | (go_at_call 28; exact quiet_lat_same (ql.out _)) | (go_at_call 29; exact quiet_lat (qn.out _)) | (go_at_call 30; exact quiet_lat_same (qg.out _)) | (go_at_call 31; exact quiet_lat (qrg.out _))))
              refine wpQuiet_nil ?_
              intro _ hw'
              obtain ⟨nu, hw''⟩ := hw'
              subst hw''
              have HQ6 := Lib.hid (HQ.out.below (bel_lat0 w5 nu))
              clear qm qrm ql qn qg qrg cx1
              go_wp2
              obtain ⟨w6, hw6⟩ : ∃ w6, lat w5 nu = w6 := ⟨_, rfl⟩
              rw [hw6] at HQ6 ⊢
              clear hw6
              have hn1b : n1 ≤ 2000000 := by have := HBB.out.1; have := HNN.out.1; omega
              go_loopw [8] (fun x wr => ∃ z : Int, -1 ≤ z ∧ z ≤ (n1 : Int) + 1 ∧ x = .int .i64 z ∧ Hid (∃ xs, QQ w wr T R X xs tt tt)) (fun x _ => ((n1 : Int) + 1 - intOf x).toNat)
              case atStart => exact ⟨-1, by omega, by omega, rfl, Lib.hid ⟨_, HQ6.out⟩⟩
              case round =>
                obtain ⟨z, hz0, hz1, rfl, hQ7x⟩ := hrel
                obtain ⟨xs7, hQ7y⟩ := hQ7x.out
                have hQ7 := Lib.hid hQ7y
                clear hQ7x hQ7y
                obtain ⟨w7, rfl⟩ : ∃ wo : World, wo = wr := ⟨_, rfl⟩
                have ql0 := q_tlen hQ7.out
                rw [HNN.out.1] at ql0
                have ql := Lib.hid ql0
                clear ql0
                by_cases hzn : z ≤ n1
                · have qg := Lib.hid (q_tget hQ7.out z)
                  have qrg := Lib.hid (q_rget hQ7.out HN2B.out z)
                  obtain ⟨gy, hgy⟩ : ∃ gy, getZ tt.1 z = gy := ⟨_, rfl⟩
                  rw [hgy] at qg qrg
                  clear hgy
                  go_wp2_with (first | (go_at_call 28; refine ql.out.mono ?_; rintro e w' ⟨rfl, rfl⟩) | (go_at_call 30; refine qg.out.mono ?_; rintro e w' ⟨rfl, rfl⟩) | (go_at_call 31; refine qrg.out.mono ?_; rintro e w8 ⟨rfl, hb⟩))
                  have HQ8 := Lib.hid (hQ7.out.below hb)
                  clear hb
                  go_roundw
                  case rel => first | exact ⟨z + 1, by omega, by omega, by go_num, Lib.hid ⟨_, HQ8.out⟩⟩ | ((repeat apply Exists.intro); exact ⟨⟨z + 1, by omega, by omega, by go_num, Lib.hid ⟨_, HQ8.out⟩⟩, rfl⟩)
                  case measure => simp [intOf]; omega
                · go_wp2_with (go_at_call 28; refine ql.out.mono ?_; rintro e w' ⟨rfl, rfl⟩)
                  go_roundw
                  case rel => first | exact ⟨i + 1, by omega, by omega, by go_num, Lib.hid ⟨tt, hQ7.out.rest, HBB.out.1, HBB.out.2⟩⟩ | ((repeat apply Exists.intro); exact ⟨⟨i + 1, by omega, by omega, by go_num, Lib.hid ⟨tt, hQ7.out.rest, HBB.out.1, HBB.out.2⟩⟩, rfl⟩)
                  case measure => simp [intOf]; omega
            · have HM := Lib.hid hm
              clear hm HQ1
              go_wp2_with fail
              go_region_held3 (fun wy => wy.cell? ⟨X, 1, none⟩ = some (.int .i64 x1)) (exact HD.out.box.cell 1)
                (first
                  | (go_at_call 24; refine (q_tback_no HD.out x1 HM.out).mono ?_; rintro e wn ⟨rfl, hb⟩; have HD2 := Lib.hid (HD.out.below hb); clear HD hb; have HD := HD2; clear HD2)
                  | (go_at_call 25; refine (q_rback_no HD.out x1 HM.out HN2.out).mono ?_; rintro e w' ⟨rfl, rfl⟩))
              have HQ := HD
              clear HD c0 c1 c2
              have hbb : ts.1.length ≤ 12 * (i + 1) ∧ ts.2.length ≤ i + 1 := by have := HB.out; omega
              have HBB := Lib.hid hbb
              have hn2b : (ts).2.length ≤ 1000000 := by have := HBB.out.2; omega
              obtain ⟨w5, rfl⟩ : ∃ wo : World, wo = wn := ⟨_, rfl⟩
              obtain ⟨tt, htt⟩ : ∃ tt, ts = tt := ⟨_, rfl⟩
              rw [htt] at HQ HBB hn2b
              clear htt hbb
              have hQ := HQ.out
              obtain ⟨g, c, hnow⟩ := q_rnow hQ hn2b
              obtain ⟨n1, hn1⟩ : ∃ n1, tt.1.length = n1 := ⟨_, rfl⟩
              obtain ⟨n2, hn2⟩ : ∃ n2, tt.2.length = n2 := ⟨_, rfl⟩
              obtain ⟨gz, hgz⟩ : ∃ gz, getZ tt.1 x1 = gz := ⟨_, rfl⟩
              have qm := Lib.hid (fun u => q_tmark (hQ.below (bel_lat0 w5 u)))
              have qrm := Lib.hid (fun u => q_rmark (hQ.below (bel_lat0 w5 u)) hn2b)
              have ql := Lib.hid (fun u => q_tlen (hQ.below (bel_lat0 w5 u)))
              have qn := Lib.hid (fun u => hnow _ (bel_lat0 w5 u))
              have qg := Lib.hid (fun u => q_tget (hQ.below (bel_lat0 w5 u)) x1)
              have qrg := Lib.hid (fun u => q_rget (hQ.below (bel_lat0 w5 u)) hn2b x1)
              have cx1 : ∀ u, (lat w5 u).cell? ⟨X, 1, none⟩ = some (.int .i64 x1) := fun u => (hQ.below (bel_lat0 w5 u)).box.cell 1
              rw [hgz] at qg qrg
              rw [hn1] at ql qn
              rw [hn2] at qm qrm
              have HNN := Lib.hid (And.intro hn1 hn2)
              have HN2B := Lib.hid hn2b
              clear hQ hnow hn1 hn2 hgz hn2b
              go_upto_region 23 with fail
              refine wp_region_lat (by kernel_rfl) (by kernel_rfl) ?_
              repeat (go_big_quiet_step (first | (go_at_call 26; exact quiet_lat_same (qm.out _)) | (go_at_call 27; exact quiet_lat_same (qrm.out _)) | (go_at_call 28; exact quiet_lat_same (ql.out _)) | (go_at_call 29; exact quiet_lat (qn.out _)) | (go_at_call 30; exact quiet_lat_same (qg.out _)) | (go_at_call 31; exact quiet_lat (qrg.out _))))
              refine wpQuiet_nil ?_
              intro _ hw'
              obtain ⟨nu, hw''⟩ := hw'
              subst hw''
              have HQ6 := Lib.hid (HQ.out.below (bel_lat0 w5 nu))
              clear qm qrm ql qn qg qrg cx1
              go_wp2
              obtain ⟨w6, hw6⟩ : ∃ w6, lat w5 nu = w6 := ⟨_, rfl⟩
              rw [hw6] at HQ6 ⊢
              clear hw6
              have hn1b : n1 ≤ 2000000 := by have := HBB.out.1; have := HNN.out.1; omega
              go_loopw [8] (fun x wr => ∃ z : Int, -1 ≤ z ∧ z ≤ (n1 : Int) + 1 ∧ x = .int .i64 z ∧ Hid (∃ xs, QQ w wr T R X xs tt tt)) (fun x _ => ((n1 : Int) + 1 - intOf x).toNat)
              case atStart => exact ⟨-1, by omega, by omega, rfl, Lib.hid ⟨_, HQ6.out⟩⟩
              case round =>
                obtain ⟨z, hz0, hz1, rfl, hQ7x⟩ := hrel
                obtain ⟨xs7, hQ7y⟩ := hQ7x.out
                have hQ7 := Lib.hid hQ7y
                clear hQ7x hQ7y
                obtain ⟨w7, rfl⟩ : ∃ wo : World, wo = wr := ⟨_, rfl⟩
                have ql0 := q_tlen hQ7.out
                rw [HNN.out.1] at ql0
                have ql := Lib.hid ql0
                clear ql0
                by_cases hzn : z ≤ n1
                · have qg := Lib.hid (q_tget hQ7.out z)
                  have qrg := Lib.hid (q_rget hQ7.out HN2B.out z)
                  obtain ⟨gy, hgy⟩ : ∃ gy, getZ tt.1 z = gy := ⟨_, rfl⟩
                  rw [hgy] at qg qrg
                  clear hgy
                  go_wp2_with (first | (go_at_call 28; refine ql.out.mono ?_; rintro e w' ⟨rfl, rfl⟩) | (go_at_call 30; refine qg.out.mono ?_; rintro e w' ⟨rfl, rfl⟩) | (go_at_call 31; refine qrg.out.mono ?_; rintro e w8 ⟨rfl, hb⟩))
                  have HQ8 := Lib.hid (hQ7.out.below hb)
                  clear hb
                  go_roundw
                  case rel => first | exact ⟨z + 1, by omega, by omega, by go_num, Lib.hid ⟨_, HQ8.out⟩⟩ | ((repeat apply Exists.intro); exact ⟨⟨z + 1, by omega, by omega, by go_num, Lib.hid ⟨_, HQ8.out⟩⟩, rfl⟩)
                  case measure => simp [intOf]; omega
                · go_wp2_with (go_at_call 28; refine ql.out.mono ?_; rintro e w' ⟨rfl, rfl⟩)
                  go_roundw
                  case rel => first | exact ⟨i + 1, by omega, by omega, by go_num, Lib.hid ⟨tt, hQ7.out.rest, HBB.out.1, HBB.out.2⟩⟩ | ((repeat apply Exists.intro); exact ⟨⟨i + 1, by omega, by omega, by go_num, Lib.hid ⟨tt, hQ7.out.rest, HBB.out.1, HBB.out.2⟩⟩, rfl⟩)
                  case measure => simp [intOf]; omega
      · obtain rfl : i = 120 := by omega
        obtain ⟨ts, hQ, _, _⟩ := hst.out
        have HB := Lib.hid hQ.bel
        clear hst hQ
        go_wp2_with fail
        refine (tworks_any _).mono ?_
        rintro e wc ⟨rfl, hc⟩
        have HC := Lib.hid hc
        clear hc
        go_wp2
        go_ret
        exact ⟨rfl, fb_call HB.out HC.out⟩
    · obtain rfl : len = i := by omega
      obtain ⟨ts, hQ, _, _⟩ := hst.out
      have HB := Lib.hid hQ.bel
      clear hst hQ hlt
      go_wp2_with fail
      refine (tworks_any _).mono ?_
      rintro e wc ⟨rfl, hc⟩
      have HC := Lib.hid hc
      clear hc
      go_wp2
      go_ret
      exact ⟨rfl, fb_call HB.out HC.out⟩
end Go.Proofs.Ytfkkkndigkchcaa
