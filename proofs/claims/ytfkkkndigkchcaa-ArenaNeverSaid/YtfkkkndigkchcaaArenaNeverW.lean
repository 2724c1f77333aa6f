/- The walk of ArenaNever. No condition. -/
import Derived.Test.YtfkkkndigkchcaaArenaNevT
import Derived.Test.YtfkkkndigkchcaaTrailV
import Derived.Test.YtfkkkndigkchcaaTrailCells
namespace Go.Proofs.Ytfkkkndigkchcaa
open Go.ChangeShapes Go.WideShapes Go.ChangeAt Go.RowKit
attribute [local irreducible] Calls

set_option maxRecDepth 100000 in
set_option maxHeartbeats 4000000 in
theorem arenaNever_walk (a : Option Addr) (len lc : Nat) (F : Nat → Int) (z : Int) (w : World) (hR : Nums w w.heap.size .u8 (.slice a len lc) len F) (hz0 : 0 ≤ z) (hz1 : z ≤ 255) (hl : (len : Int) ≤ 9223372036854775807) :
    Calls Try.prog 10 #[.slice a len lc, .int .u8 z] w fun e w' => e = .returned (.bool true) ∧ Below w.heap.size w w' := by
  obtain ⟨m, hm⟩ : ∃ m : Nat, z % 20 = m := ⟨(z % 20).toNat, by omega⟩
  have hm20 : m < 20 := by omega
  obtain ⟨i0, hi, hy0, hy1, hy2⟩ := info_parts infoI
  have HR := Lib.hid hR
  clear hR
  go_enter Try.func10, Try.ntmps10
  go_wp2_with fail
  refine (aworks_any w).mono ?_
  rintro e wa ⟨rfl, hba⟩
  go_wp2_with fail
  refine (tr_new wa).mono ?_
  rintro e wb ⟨rfl, hT0⟩
  obtain ⟨T, hT⟩ : ∃ T, wa.heap.size = T := ⟨_, rfl⟩
  have HT := Lib.hid (hT0 w hba).1
  rw [hT] at HT ⊢
  clear hT0 hT hba
  have hs := Lib.hid (as_start (col := fun _ => 1) (c := 1) w (1 + m) (by omega) (by omega) wb HT.out (fun _ _ => rfl))
  rw [show ((1 + m : Nat) : Int) = 1 + (m : Int) by omega] at hs
  go_wp2_with (go_at_call 44; refine hs.out.mono ?_; rintro e w1 ⟨A, Bb, Ba, q, rfl, hN, _⟩)
  have HD := Lib.hid (show NS w w1 A T (1 + m) 0 [] [] [] (.slice none 0 0) [] (.slice none 0 0) [] none [] from ⟨_, Bb, Ba, q, _, hN.1, nv_new _, RowC.nil _ _ _ _ _ _, ⟨.inl (IRow.nil _ _), fun j hj => by cases hj⟩, fun b e => by cases e⟩)
  clear hN HT hs
  obtain ⟨n, hn⟩ : ∃ n, 1 + m = n := ⟨_, rfl⟩
  rw [hn] at HD
  have hn2 : 1 + (m : Int) = n := by omega
  rw [hn2]
  have hn20 : n ≤ 20 := by omega
  have hn1 : 1 ≤ n := by omega
  clear hn hn2 hm hm20 hz0 hz1
  go_loopw [7, 8, 9] (fun lv dv x wr => ∃ (i kb : Nat) (ls : List Nat) (live dead : List Int), i ≤ len ∧ i ≤ 200 ∧ x = .int .i64 i ∧ Hid (NS w wr A T n kb ls live dead lv live dv dead none [] ∧ kb ≤ i ∧ dead.length ≤ i)) (fun _ _ x _ => len - (intOf x).toNat)
  case atStart => exact ⟨0, 0, [], [], [], Nat.zero_le _, by omega, rfl, Lib.hid ⟨HD.out, by omega, by simp⟩⟩
  case round =>
    obtain ⟨i, kb, ls, live, dead, hil, hi200, rfl, hst⟩ := hrel
    by_cases hlt : i < len
    · by_cases h200 : i < 200
      · obtain ⟨a', c', e, _, _, hcells⟩ := HR.out
        injection e with e1 e2 e3
        subst e1 e3
        obtain ⟨b, o, rfl, hb, hcells⟩ := hcells.resolve_left (by omega)
        have hbw : Below w.heap.size w wr := hst.out.1.bel
        have hx := hcells i hlt
        obtain ⟨x, hxx⟩ : ∃ x, F i = x := ⟨_, rfl⟩
        rw [hxx] at hx
        have bx := u8_bd hx.2
        have cx : wr.cell? ⟨b, o + i, none⟩ = some (.int .u8 x) := (hbw.cell (p := ⟨b, o + i, none⟩) hb).trans hx.1
        have x0 := bx.1
        have x1 := bx.2
        have hi0 : (0 : Int) ≤ i := by omega
        have hi1 : (i : Int) < len := by omega
        have hi2 : (i : Int) < 200 := by omega
        clear hx bx hxx hcells hbw hb
        obtain ⟨lx, lcap, rfl⟩ := hst.out.1.lrow.any
        have hlc : live.length ≤ n := hst.out.1.small.1
        by_cases hfree : x % 2 = 1 ∧ 0 < live.length
        · obtain ⟨hx2, hpos⟩ := hfree
          have hpos2 : (0 : Int) < live.length := by omega
          obtain ⟨k, hk⟩ : ∃ k : Nat, x / 2 % (live.length : Int) = k := ⟨(x / 2 % (live.length : Int)).toNat, by have := Int.emod_nonneg (x / 2) (show (live.length : Int) ≠ 0 by omega); omega⟩
          have hkl : k < live.length := by have := Int.emod_lt_of_pos (x / 2) hpos2; omega
          obtain ⟨g, cg, hv, hcg⟩ := hst.out.1.lrow.form hpos
          injection hv with hv _ hv2
          subst hv hv2
          obtain ⟨y, hy⟩ : ∃ y, live.getD k 0 = y := ⟨_, rfl⟩
          have cy : wr.cell? ⟨g, k, none⟩ = some (.int .i64 y) := by rw [← hy]; exact hst.out.1.lrow.cell hkl
          have hc := Lib.hid (ns_free hst.out.1 (by have := hst.out.2.1; omega) hkl hy)
          have k0 : (0 : Int) ≤ k := by omega
          have k1 : (k : Int) < live.length := by omega
          have HS := Lib.hid hst.out.2
          have HY := Lib.hid hy
          have hdl : dead.length ≤ 1000 := by have := hst.out.2.2; omega
          clear hst hy
          go_wp2_with (first | (go_at_call 47; refine hc.out.mono ?_; rintro e w5 ⟨rfl, hN⟩; have HN := Lib.hid hN; have cy5 : w5.cell? ⟨g, k, none⟩ = some (.int .i64 y) := (by rw [← HY.out]; exact hN.lrow.cell hkl); clear hN) | (at_builtin; refine wpList_append_fresh _ rfl _ _ 34 rfl w.heap.size 3 i0 (.int .i64 0) 1 8 Try.underlying34 hi hy0 hy1 hy2 rfl (by decide) _ _ _ rfl (World.ownsRow.alloc HN.out.drow _) ⟨w5.heap.size, 0, none⟩ 1 1 [.int .i64 y] rfl rfl (cell_one_new _ _ _) (by simp [Value.oneCell']) (by unfold maxLen; omega) (by omega) (by have := HN.out.bel.size; simp; omega) ?_; intro v' w6 hown' hgrow hfr'; have HA := Lib.hid (HN.out.deadApp _ hown' hgrow hfr'); clear HN hown' hgrow hfr' cy5))
          have k3 : (k : Int) ≤ lcap := by omega
          have k4 : (k : Int) + 1 ≤ live.length := by omega
          have k5 : (k : Int) + 1 ≤ lcap := by omega
          have kw : IntKind.i64.wrap ((k : Int) + 1) = (k : Int) + 1 := by rw [IntKind.wrap_i64]; omega
          have k7 : (0 : Int) ≤ (k : Int) + 1 := by omega
          have kt : ((k : Int) + 1).toNat = k + 1 := by omega
          have HK := Lib.hid (And.intro hkl hcg)
          by_cases hend : k + 1 = live.length
          · go_region_law (refine step_append_nothing rfl (.tmp 75) (.tmp 79) 34 rfl 3 i0 Try.underlying34 hi ⟨g, 0, none⟩ k 0 (lcap - live.length) (if lcap = live.length then some ⟨g, 0, none⟩ else some ⟨g, live.length, none⟩) (by simp [Act.eval, Act.put]) (by simp [Act.eval, Act.put]) rfl ?_)
            obtain ⟨L, hL⟩ : ∃ L, live.take k ++ live.drop (k + 1) = L := ⟨_, rfl⟩
            obtain ⟨hB, hLk⟩ := HA.out.endCut hL hend
            have hc2 := Lib.hid (ns_len hB)
            rw [hLk] at hc2
            clear HA hB HK
            go_wp2_with (go_at_call 57; refine hc2.out.mono ?_; rintro e w8 ⟨rfl, hN⟩)
            go_roundw
            case rel => first | exact ⟨i + 1, kb + 1, _, L, dead ++ [y], by omega, by omega, by go_num, Lib.hid ⟨hN, by have := HS.out.1; omega, by have := HS.out.2; simp; omega⟩⟩ | ((repeat apply Exists.intro); exact ⟨⟨i + 1, kb + 1, _, L, dead ++ [y], by omega, by omega, by go_num, Lib.hid ⟨hN, by have := HS.out.1; omega, by have := HS.out.2; simp; omega⟩⟩, rfl⟩)
            case measure => simp [intOf]; omega
          · have hne : ¬ (lcap = k + 1) := by omega
            go_region_law (refine step_append_rest rfl (.tmp 75) (.tmp 79) 34 rfl w.heap.size i0 (.int .i64 0) 8 Try.underlying34 hi hy0 hy1 hy2 rfl g lcap k (lcap - (k + 1)) live (by simp [Act.eval, Act.put]) (by simp [Act.eval, Act.put]) (by omega) (HA.out.below (bel_drew (Below.refl _ _))).lrow (by unfold maxLen; omega) (by omega) ?_; intro v7 w7 hw7 hg7)
            obtain ⟨L, hL⟩ : ∃ L, live.take k ++ live.drop (k + 1) = L := ⟨_, rfl⟩
            obtain ⟨x7, c7, rfl, hB⟩ := HA.out.endRest hL (by have := HK.out.1; omega) hw7 hg7
            have hc2 := Lib.hid (ns_len hB)
            clear HA hB HK hw7 hg7
            go_wp2_with (go_at_call 57; refine hc2.out.mono ?_; rintro e w8 ⟨rfl, hN⟩)
            go_roundw
            case rel => first | exact ⟨i + 1, kb + 1, _, L, dead ++ [y], by omega, by omega, by go_num, Lib.hid ⟨hN, by have := HS.out.1; omega, by have := HS.out.2; simp; omega⟩⟩ | ((repeat apply Exists.intro); exact ⟨⟨i + 1, kb + 1, _, L, dead ++ [y], by omega, by omega, by go_num, Lib.hid ⟨hN, by have := HS.out.1; omega, by have := HS.out.2; simp; omega⟩⟩, rfl⟩)
            case measure => simp [intOf]; omega
        · by_cases hx2 : x % 2 = 1
          · obtain rfl : live = [] := List.eq_nil_of_length_eq_zero (by omega)
            have hroom : ([] : List Int).length < n := by simp; omega
            clear hfree
            obtain ⟨live, hlive⟩ : ∃ l0 : List Int, ([] : List Int) = l0 := ⟨_, rfl⟩
            have hnp : ¬ ((0 : Int) < (live.length : Int)) := by rw [← hlive]; simp
            rw [hlive] at hst hroom hlc ⊢
            clear hlive
            obtain ⟨ls', y, hc0⟩ := ns_make hst.out.1 (by have := hst.out.2.1; omega) hroom
            have hc := Lib.hid hc0
            have HS := Lib.hid hst.out.2
            have hr2 : (live.length : Int) < n := by omega
            have hll : live.length ≤ 1000 := by omega
            obtain ⟨L, hL⟩ : ∃ L, live ++ [y] = L := ⟨_, rfl⟩
            have HL := Lib.hid hL
            clear hst hc0 hL
            go_wp2_with (first | (go_at_call 50; refine hc.out.mono ?_; rintro e w5 ⟨rfl, hN⟩; rw [HL.out] at hN; have HN := Lib.hid hN; clear hN) | (at_builtin; refine wpList_append_lrow _ rfl _ _ 34 rfl w.heap.size i0 (.int .i64 0) 8 Try.underlying34 hi hy0 hy1 hy2 rfl _ live rfl (HN.out.below (fb_alloc (Below.refl _ _) _)).lrow ⟨w5.heap.size, 0, none⟩ 1 y rfl (cell_one_new _ _ _) (by unfold maxLen; omega) (by omega) (by have := HN.out.bel.size; simp; omega) ?_; intro v' w6 hown' hgrow hfr'; have hI := IRow.app hown'; rw [HL.out] at hI; obtain ⟨x7, c7, rfl⟩ := hI.any; have hA := HN.out.liveApp _ hI hgrow hfr'; have hc2 := Lib.hid (ns_len hA); clear HN hI hown' hgrow hfr' hA) | (go_at_call 57; refine hc2.out.mono ?_; rintro e w8 ⟨rfl, hN⟩))
            go_roundw
            case rel => first | exact ⟨i + 1, kb + 1, ls', L, dead, by omega, by omega, by go_num, Lib.hid ⟨hN, by have := HS.out.1; omega, by have := HS.out.2; omega⟩⟩ | ((repeat apply Exists.intro); exact ⟨⟨i + 1, kb + 1, ls', L, dead, by omega, by omega, by go_num, Lib.hid ⟨hN, by have := HS.out.1; omega, by have := HS.out.2; omega⟩⟩, rfl⟩)
            case measure => simp [intOf]; omega
          · clear hfree
            by_cases hroom : live.length < n
            · obtain ⟨ls', y, hc0⟩ := ns_make hst.out.1 (by have := hst.out.2.1; omega) hroom
              have hc := Lib.hid hc0
              have HS := Lib.hid hst.out.2
              have hr2 : (live.length : Int) < n := by omega
              have hll : live.length ≤ 1000 := by omega
              obtain ⟨L, hL⟩ : ∃ L, live ++ [y] = L := ⟨_, rfl⟩
              have HL := Lib.hid hL
              clear hst hc0 hL
              go_wp2_with (first | (go_at_call 50; refine hc.out.mono ?_; rintro e w5 ⟨rfl, hN⟩; rw [HL.out] at hN; have HN := Lib.hid hN; clear hN) | (at_builtin; refine wpList_append_lrow _ rfl _ _ 34 rfl w.heap.size i0 (.int .i64 0) 8 Try.underlying34 hi hy0 hy1 hy2 rfl _ live rfl (HN.out.below (fb_alloc (Below.refl _ _) _)).lrow ⟨w5.heap.size, 0, none⟩ 1 y rfl (cell_one_new _ _ _) (by unfold maxLen; omega) (by omega) (by have := HN.out.bel.size; simp; omega) ?_; intro v' w6 hown' hgrow hfr'; have hI := IRow.app hown'; rw [HL.out] at hI; obtain ⟨x7, c7, rfl⟩ := hI.any; have hA := HN.out.liveApp _ hI hgrow hfr'; have hc2 := Lib.hid (ns_len hA); clear HN hI hown' hgrow hfr' hA) | (go_at_call 57; refine hc2.out.mono ?_; rintro e w8 ⟨rfl, hN⟩))
              go_roundw
              case rel => first | exact ⟨i + 1, kb + 1, ls', L, dead, by omega, by omega, by go_num, Lib.hid ⟨hN, by have := HS.out.1; omega, by have := HS.out.2; omega⟩⟩ | ((repeat apply Exists.intro); exact ⟨⟨i + 1, kb + 1, ls', L, dead, by omega, by omega, by go_num, Lib.hid ⟨hN, by have := HS.out.1; omega, by have := HS.out.2; omega⟩⟩, rfl⟩)
              case measure => simp [intOf]; omega
            · have hc := Lib.hid (ns_full hst.out.1 hroom)
              have HS := Lib.hid hst.out.2
              have hr2 : ¬ ((live.length : Int) < n) := by omega
              clear hst
              go_wp2_with (first | (go_at_call 50; refine hc.out.mono ?_; rintro e w5 ⟨rfl, hN⟩; have hc2 := Lib.hid (ns_len hN); clear hN) | (go_at_call 57; refine hc2.out.mono ?_; rintro e w8 ⟨rfl, hN⟩))
              go_roundw
              case rel => first | exact ⟨i + 1, kb, ls, live, dead, by omega, by omega, by go_num, Lib.hid ⟨hN, by have := HS.out.1; omega, by have := HS.out.2; omega⟩⟩ | ((repeat apply Exists.intro); exact ⟨⟨i + 1, kb, ls, live, dead, by omega, by omega, by go_num, Lib.hid ⟨hN, by have := HS.out.1; omega, by have := HS.out.2; omega⟩⟩, rfl⟩)
              case measure => simp [intOf]; omega
      · obtain rfl : i = 200 := by omega
        have HD2 := Lib.hid hst.out
        clear hst HD
        obtain ⟨wo, rfl⟩ : ∃ wo : World, wo = wr := ⟨_, rfl⟩
        obtain ⟨lx, lcap, rfl⟩ := HD2.out.1.lrow.any
        obtain ⟨dx, dcap, rfl⟩ := IRow.any HD2.out.1.drow
        have HB := Lib.hid (HD2.out.1.box (List.replicate 20 false))
        have hlb : live.length ≤ 20 := by have := HD2.out.1.small; omega
        have hlb2 : (live.length : Int) ≤ 20 := by omega
        have hdb : dead.length ≤ 200 := by have := HD2.out.2.2; omega
        have hkb : kb ≤ 1000 := by have := HD2.out.2.1; omega
        obtain ⟨B, hB⟩ : ∃ B, wo.heap.size = B := ⟨_, rfl⟩
        rw [hB] at HB
        clear HD2
        go_wp2
        go_loopw [14] (fun x wr => ∃ (j : Nat) (marks : List Bool), j ≤ live.length ∧ x = .int .i64 j ∧ Hid (NS w wr A T n kb ls live dead (.slice lx live.length lcap) live (.slice dx dead.length dcap) dead (some B) marks ∧ marks.length = 20 ∧ ∀ s, s < 20 → (marks.getD s false = true ↔ ∃ t, t < j ∧ ls.getD t 0 = s))) (fun x _ => live.length - (intOf x).toNat)
        case atStart => exact ⟨0, List.replicate 20 false, Nat.zero_le _, rfl, Lib.hid ⟨HB.out, by simp, marks_zero ls⟩⟩
        case round =>
          obtain ⟨j, marks, hj, rfl, hst⟩ := hrel
          by_cases hjl : j < live.length
          · obtain ⟨g, cg, hv, _⟩ := hst.out.1.lrow.form (by omega)
            injection hv with hv _ hv2
            subst hv hv2
            have hfa := hst.out.1.facts hjl
            have hcell := hst.out.1.lrow.cell hjl
            obtain ⟨y, hy⟩ : ∃ y, live.getD j 0 = y := ⟨_, rfl⟩
            obtain ⟨s, hs⟩ : ∃ s, ls.getD j 0 = s := ⟨_, rfl⟩
            have hs20 : s < 20 := by rw [← hs]; omega
            have hmn := marks_not hst.out.2.2 hfa.2.2 (by rw [hst.out.1.small.2.2]; exact hjl) hs hs20
            have hms := Lib.hid (And.intro (marks_set hst.out.2.2 hst.out.2.1 hs hs20) hst.out.2.1)
            have q1 := Lib.hid (ns_slot hst.out.1 hkb hjl)
            rw [hy] at hcell hfa q1
            rw [hs] at hfa q1
            have hy0' : ¬ (y ≤ 0) := by omega
            have s0 : (0 : Int) ≤ s := by omega
            have s0' : ¬ ((s : Int) < 0) := by omega
            have s1 : (s : Int) < n := by omega
            have s2 : ¬ ((n : Int) ≤ s) := by omega
            have s3 : (s : Int) < 20 := by omega
            have j0 : (0 : Int) ≤ j := by omega
            have j1 : (j : Int) < live.length := by omega
            have HSS := Lib.hid hst.out
            have HY := Lib.hid (And.intro hy hs)
            clear hst hy hs hfa
            go_wp2_with (go_at_call 54; refine q1.out.mono ?_; rintro e w5 ⟨rfl, hb5⟩)
            have HN := Lib.hid (HSS.out.1.below hb5)
            have cy : ∀ u, (lat w5 u).cell? ⟨g, j, none⟩ = some (.int .i64 y) := fun u => by
              rw [← HY.out.1]; exact (HN.out.below (bel_lat0 w5 u)).lrow.cell hjl
            have cs : ∀ u, (lat w5 u).cell? ⟨B, s, none⟩ = some (.bool false) := fun u => by
              rw [← hmn]; exact (HN.out.below (bel_lat0 w5 u)).arr.bool (by rw [HSS.out.2.1]; exact hs20)
            have q2 := Lib.hid (fun u => ns_valid (HN.out.below (bel_lat0 w5 u)) hkb hjl)
            have q3 := Lib.hid (fun u => ns_at (HN.out.below (bel_lat0 w5 u)) hkb hjl)
            rw [HY.out.1] at q2 q3
            rw [HY.out.2] at q3
            clear HSS hb5 hcell
            have d1 : decide (y ≤ 0) = false := decide_eq_false (by omega)
            have d2 : decide ((s : Int) < 0) = false := decide_eq_false (by omega)
            have d3 : decide (n ≤ s) = false := decide_eq_false (by omega)
            refine wp_region_lat (by kernel_rfl) (by kernel_rfl) ?_
            repeat (go_big_quiet_step (first | (go_at_call 52; exact quiet_lat (q2.out _)) | (go_at_call 55; exact quiet_lat (q3.out _))))
            refine wpQuiet_nil ?_
            intro _ hw'
            obtain ⟨nu, hw''⟩ := hw'
            subst hw''
            have HM := Lib.hid ((HN.out.below (bel_lat0 w5 nu)).mark s)
            have cs2 := cs nu
            have cf : (lat w5 nu).frozen? ⟨B, s, none⟩ = false := (HN.out.below (bel_lat0 w5 nu)).arr.frozen s
            clear cs cy q2 q3 HN
            go_wp2
            go_roundw
            case rel => first | exact ⟨j + 1, marks.set s true, by omega, by go_num, Lib.hid ⟨HM.out, by rw [List.length_set]; exact hms.out.2, hms.out.1⟩⟩ | ((repeat apply Exists.intro); exact ⟨⟨j + 1, marks.set s true, by omega, by go_num, Lib.hid ⟨HM.out, by rw [List.length_set]; exact hms.out.2, hms.out.1⟩⟩, rfl⟩)
            case measure => simp [intOf]; omega
          · obtain rfl : j = live.length := by omega
            have HD3 := Lib.hid hst.out.1
            clear hst HB
            obtain ⟨wp, rfl⟩ : ∃ wo : World, wo = wr := ⟨_, rfl⟩
            go_wp2
            go_loopw [16] (fun x wr => ∃ j : Nat, j ≤ dead.length ∧ x = .int .i64 j ∧ Hid (NS w wr A T n kb ls live dead (.slice lx live.length lcap) live (.slice dx dead.length dcap) dead (some B) marks)) (fun x _ => dead.length - (intOf x).toNat)
            case atStart => exact ⟨0, Nat.zero_le _, rfl, HD3⟩
            case round =>
              obtain ⟨j, hj, rfl, hst⟩ := hrel
              by_cases hjl : j < dead.length
              · obtain ⟨g, cg, hv⟩ := IRow.form hst.out.drow (by omega)
                injection hv with hv _ hv2
                subst hv hv2
                obtain ⟨y, hy⟩ : ∃ y, dead.getD j 0 = y := ⟨_, rfl⟩
                have HC : Hid (∀ {wq : World}, NS w wq A T n kb ls live dead (.slice lx live.length lcap) live (.slice (some ⟨g, 0, none⟩) dead.length dcap) dead (some B) marks → wq.cell? ⟨g, j, none⟩ = some (.int .i64 y)) := Lib.hid (fun h => by rw [← hy]; exact IRow.cell h.drow hjl)
                have cy := HC.out hst.out
                have HY := Lib.hid hy
                have hc1 := Lib.hid (hst.out.gone hkb hjl hy).1
                have j0 : (0 : Int) ≤ j := by omega
                have j1 : (j : Int) < dead.length := by omega
                clear hst hy
                go_wp2_with (first | (go_at_call 52; refine hc1.out.mono ?_; rintro e w5 ⟨rfl, hN⟩; have cy5 := HC.out hN; have hc2 := Lib.hid (hN.gone hkb hjl HY.out).2.1; clear hN) | (go_at_call 54; refine hc2.out.mono ?_; rintro e w6 ⟨rfl, hN⟩; have cy6 := HC.out hN; have hc3 := Lib.hid (hN.gone hkb hjl HY.out).2.2; clear hN) | (go_at_call 47; refine hc3.out.mono ?_; rintro e w7 ⟨rfl, hN⟩))
                go_roundw
                case rel => first | exact ⟨j + 1, by omega, by go_num, Lib.hid hN⟩ | ((repeat apply Exists.intro); exact ⟨⟨j + 1, by omega, by go_num, Lib.hid hN⟩, rfl⟩)
                case measure => simp [intOf]; omega
              · obtain rfl : j = dead.length := by omega
                go_wp2
                go_ret
                exact ⟨rfl, hst.out.bel⟩
    · obtain rfl : i = len := by omega
      have HD2 := Lib.hid hst.out
      clear hst HD
      obtain ⟨wo, rfl⟩ : ∃ wo : World, wo = wr := ⟨_, rfl⟩
      obtain ⟨lx, lcap, rfl⟩ := HD2.out.1.lrow.any
      obtain ⟨dx, dcap, rfl⟩ := IRow.any HD2.out.1.drow
      have HB := Lib.hid (HD2.out.1.box (List.replicate 20 false))
      have hlb : live.length ≤ 20 := by have := HD2.out.1.small; omega
      have hlb2 : (live.length : Int) ≤ 20 := by omega
      have hdb : dead.length ≤ 200 := by have := HD2.out.2.2; omega
      have hkb : kb ≤ 1000 := by have := HD2.out.2.1; omega
      obtain ⟨B, hB⟩ : ∃ B, wo.heap.size = B := ⟨_, rfl⟩
      rw [hB] at HB
      clear HD2
      go_wp2
      go_loopw [14] (fun x wr => ∃ (j : Nat) (marks : List Bool), j ≤ live.length ∧ x = .int .i64 j ∧ Hid (NS w wr A T n kb ls live dead (.slice lx live.length lcap) live (.slice dx dead.length dcap) dead (some B) marks ∧ marks.length = 20 ∧ ∀ s, s < 20 → (marks.getD s false = true ↔ ∃ t, t < j ∧ ls.getD t 0 = s))) (fun x _ => live.length - (intOf x).toNat)
      case atStart => exact ⟨0, List.replicate 20 false, Nat.zero_le _, rfl, Lib.hid ⟨HB.out, by simp, marks_zero ls⟩⟩
      case round =>
        obtain ⟨j, marks, hj, rfl, hst⟩ := hrel
        by_cases hjl : j < live.length
        · obtain ⟨g, cg, hv, _⟩ := hst.out.1.lrow.form (by omega)
          injection hv with hv _ hv2
          subst hv hv2
          have hfa := hst.out.1.facts hjl
          have hcell := hst.out.1.lrow.cell hjl
          obtain ⟨y, hy⟩ : ∃ y, live.getD j 0 = y := ⟨_, rfl⟩
          obtain ⟨s, hs⟩ : ∃ s, ls.getD j 0 = s := ⟨_, rfl⟩
          have hs20 : s < 20 := by rw [← hs]; omega
          have hmn := marks_not hst.out.2.2 hfa.2.2 (by rw [hst.out.1.small.2.2]; exact hjl) hs hs20
          have hms := Lib.hid (And.intro (marks_set hst.out.2.2 hst.out.2.1 hs hs20) hst.out.2.1)
          have q1 := Lib.hid (ns_slot hst.out.1 hkb hjl)
          rw [hy] at hcell hfa q1
          rw [hs] at hfa q1
          have hy0' : ¬ (y ≤ 0) := by omega
          have s0 : (0 : Int) ≤ s := by omega
          have s0' : ¬ ((s : Int) < 0) := by omega
          have s1 : (s : Int) < n := by omega
          have s2 : ¬ ((n : Int) ≤ s) := by omega
          have s3 : (s : Int) < 20 := by omega
          have j0 : (0 : Int) ≤ j := by omega
          have j1 : (j : Int) < live.length := by omega
          have HSS := Lib.hid hst.out
          have HY := Lib.hid (And.intro hy hs)
          clear hst hy hs hfa
          go_wp2_with (go_at_call 54; refine q1.out.mono ?_; rintro e w5 ⟨rfl, hb5⟩)
          have HN := Lib.hid (HSS.out.1.below hb5)
          have cy : ∀ u, (lat w5 u).cell? ⟨g, j, none⟩ = some (.int .i64 y) := fun u => by
            rw [← HY.out.1]; exact (HN.out.below (bel_lat0 w5 u)).lrow.cell hjl
          have cs : ∀ u, (lat w5 u).cell? ⟨B, s, none⟩ = some (.bool false) := fun u => by
            rw [← hmn]; exact (HN.out.below (bel_lat0 w5 u)).arr.bool (by rw [HSS.out.2.1]; exact hs20)
          have q2 := Lib.hid (fun u => ns_valid (HN.out.below (bel_lat0 w5 u)) hkb hjl)
          have q3 := Lib.hid (fun u => ns_at (HN.out.below (bel_lat0 w5 u)) hkb hjl)
          rw [HY.out.1] at q2 q3
          rw [HY.out.2] at q3
          clear HSS hb5 hcell
          have d1 : decide (y ≤ 0) = false := decide_eq_false (by omega)
          have d2 : decide ((s : Int) < 0) = false := decide_eq_false (by omega)
          have d3 : decide (n ≤ s) = false := decide_eq_false (by omega)
          refine wp_region_lat (by kernel_rfl) (by kernel_rfl) ?_
          repeat (go_big_quiet_step (first | (go_at_call 52; exact quiet_lat (q2.out _)) | (go_at_call 55; exact quiet_lat (q3.out _))))
          refine wpQuiet_nil ?_
          intro _ hw'
          obtain ⟨nu, hw''⟩ := hw'
          subst hw''
          have HM := Lib.hid ((HN.out.below (bel_lat0 w5 nu)).mark s)
          have cs2 := cs nu
          have cf : (lat w5 nu).frozen? ⟨B, s, none⟩ = false := (HN.out.below (bel_lat0 w5 nu)).arr.frozen s
          clear cs cy q2 q3 HN
          go_wp2
          go_roundw
          case rel => first | exact ⟨j + 1, marks.set s true, by omega, by go_num, Lib.hid ⟨HM.out, by rw [List.length_set]; exact hms.out.2, hms.out.1⟩⟩ | ((repeat apply Exists.intro); exact ⟨⟨j + 1, marks.set s true, by omega, by go_num, Lib.hid ⟨HM.out, by rw [List.length_set]; exact hms.out.2, hms.out.1⟩⟩, rfl⟩)
          case measure => simp [intOf]; omega
        · obtain rfl : j = live.length := by omega
          have HD3 := Lib.hid hst.out.1
          clear hst HB
          obtain ⟨wp, rfl⟩ : ∃ wo : World, wo = wr := ⟨_, rfl⟩
          go_wp2
          go_loopw [16] (fun x wr => ∃ j : Nat, j ≤ dead.length ∧ x = .int .i64 j ∧ Hid (NS w wr A T n kb ls live dead (.slice lx live.length lcap) live (.slice dx dead.length dcap) dead (some B) marks)) (fun x _ => dead.length - (intOf x).toNat)
          case atStart => exact ⟨0, Nat.zero_le _, rfl, HD3⟩
          case round =>
            obtain ⟨j, hj, rfl, hst⟩ := hrel
            by_cases hjl : j < dead.length
            · obtain ⟨g, cg, hv⟩ := IRow.form hst.out.drow (by omega)
              injection hv with hv _ hv2
              subst hv hv2
              obtain ⟨y, hy⟩ : ∃ y, dead.getD j 0 = y := ⟨_, rfl⟩
              have HC : Hid (∀ {wq : World}, NS w wq A T n kb ls live dead (.slice lx live.length lcap) live (.slice (some ⟨g, 0, none⟩) dead.length dcap) dead (some B) marks → wq.cell? ⟨g, j, none⟩ = some (.int .i64 y)) := Lib.hid (fun h => by rw [← hy]; exact IRow.cell h.drow hjl)
              have cy := HC.out hst.out
              have HY := Lib.hid hy
              have hc1 := Lib.hid (hst.out.gone hkb hjl hy).1
              have j0 : (0 : Int) ≤ j := by omega
              have j1 : (j : Int) < dead.length := by omega
              clear hst hy
              go_wp2_with (first | (go_at_call 52; refine hc1.out.mono ?_; rintro e w5 ⟨rfl, hN⟩; have cy5 := HC.out hN; have hc2 := Lib.hid (hN.gone hkb hjl HY.out).2.1; clear hN) | (go_at_call 54; refine hc2.out.mono ?_; rintro e w6 ⟨rfl, hN⟩; have cy6 := HC.out hN; have hc3 := Lib.hid (hN.gone hkb hjl HY.out).2.2; clear hN) | (go_at_call 47; refine hc3.out.mono ?_; rintro e w7 ⟨rfl, hN⟩))
              go_roundw
              case rel => first | exact ⟨j + 1, by omega, by go_num, Lib.hid hN⟩ | ((repeat apply Exists.intro); exact ⟨⟨j + 1, by omega, by go_num, Lib.hid hN⟩, rfl⟩)
              case measure => simp [intOf]; omega
            · obtain rfl : j = dead.length := by omega
              go_wp2
              go_ret
              exact ⟨rfl, hst.out.bel⟩
end Go.Proofs.Ytfkkkndigkchcaa
