/- The walk of TrailBack: behind a Back to a Mark all is as it was then, marks within marks. No condition. -/
import Derived.Test.YtfkkkndigkchcaaTrailBkC
import Derived.Test.YtfkkkndigkchcaaOpenR
namespace Go.Proofs.Ytfkkkndigkchcaa
open Go.ChangeShapes Go.WideShapes Go.ChangeAt Go.RowKit

theorem infoSl : (Try.prog.info? 34).map (fun i => (i.zero, i.size, i.bytes)) = some (some (.slice none 0 0), 1, 24) := by kernel_rfl
theorem tb_start {w W1 w1 w2 : World} {Bx : Nat} {arr : List Value} (ha : Arr W1 Bx 39 arr) (ht : TrS w w1 W1.heap.size (ownT W1.heap.size none none) [] []) (hb1 : Below W1.heap.size W1 w1) (hu : TrS w w2 w1.heap.size (ownT w1.heap.size none none) [] []) (hb2 : Below w1.heap.size w1 w2) (Lw : Nat → List Int) :
    ∃ col, BK 0 w w2 col Bx arr W1.heap.size w1.heap.size ([], []) ([], []) (.slice none 0 0) [] (.slice none 0 0) [] Lw := by
  have own : ∀ T k, ownT T none none k → k = T := fun T k h => by
    rcases h with h | h | h
    · exact h
    · cases h
    · cases h
  have hB : Bx < W1.heap.size := ha.lt
  have t1 : TrC w w1 (recol W1.heap.size (fun _ => 6) 1) 1 W1.heap.size [] [] := ⟨_, fun k hk => recol_ge (by rw [own _ _ hk]; exact Nat.le_refl _), ht⟩
  refine ⟨recol w1.heap.size (recol W1.heap.size (fun _ => 6) 1) 2, hu.bel, fun _ => ⟨(hb2.block Bx (by have := hb1.size; omega)).trans ((hb1.block Bx hB).trans ha), by rw [recol_lt (by have := hb1.size; omega), recol_lt hB]⟩, fun _ => t1.made 2 hb2, fun _ => ⟨_, fun k hk => recol_ge (by rw [own _ _ hk]; exact Nat.le_refl _), hu⟩, fun _ => RowC.nil _ _ _ _ _ _, fun _ => RowC.nil _ _ _ _ _ _, fun _ j hj => by simp at hj⟩

theorem own_form4 {w : World} {base : Nat} {e : TypeId} {size n : Nat} {v : Value} {xs : List Value} (h : w.ownsRow base e size v n xs) (hn : n = 4) : ∃ g cap, v = .slice (some ⟨g, 0, none⟩) 4 cap := by
  subst hn; exact own_form h (by omega)
theorem bk_e {w w' : World} {col : Nat → Nat} {bx T U : Nat} {arr : List Value} {ts us : List Int × List (Int × Int)} {mv sv : Value} {lm : List Int} {vals : List Value} {Lw : Nat → List Int} {i : Nat} {x : Value}
    (h : BK 0 w w' col bx arr T U ts us mv lm sv vals Lw) (hx : vals[i]? = some x) : RowC w' col 5 w.heap.size 3 1 x (Lw i).length ((Lw i).map (Value.int .i64)) := by
  have hl : i < vals.length := (List.getElem?_eq_some_iff.1 hx).1
  have := h.e (by decide) i hl
  rwa [List.getD_eq_getElem?_getD, hx] at this
theorem tb_cell {w w' : World} {col : Nat → Nat} {bx T U : Nat} {A : Nat → Option Addr} {L C : Nat → Nat} {ts us : List Int × List (Int × Int)} {mv sv : Value} {lm : List Int} {vals : List Value} {Lw : Nat → List Int} {i : Nat}
    (h : BK 0 w w' col bx [.slice (A 0) (L 0) (C 0), .slice (A 1) (L 1) (C 1), .slice (A 2) (L 2) (C 2), .slice (A 3) (L 3) (C 3)] T U ts us mv lm sv vals Lw) (hi : i < 4) : w'.cell? ⟨bx, i, none⟩ = some (.slice (A i) (L i) (C i)) := by
  rw [(h.box (by decide)).1.cell]
  match i, hi with
  | 0, _ => rfl
  | 1, _ => rfl
  | 2, _ => rfl
  | 3, _ => rfl
set_option maxRecDepth 100000 in
set_option maxHeartbeats 8000000 in
theorem trailBack_walk (A : Nat → Option Addr) (L C : Nat → Nat) (F : Nat → Nat → Nat → Int) (x : Int) (w : World) (hR : ∀ i, i < 4 → L i ≤ C i ∧ C i ≤ maxLen ∧ Rws w w.heap.size .u8 2 (.slice (A i) (L i) (C i)) (L i) (F i)) (x0 : 0 ≤ x) (x1 : x ≤ 255) :
    Calls Try.prog 4 #[.agg #[.slice (A 0) (L 0) (C 0), .slice (A 1) (L 1) (C 1), .slice (A 2) (L 2) (C 2), .slice (A 3) (L 3) (C 3)], .int .u8 x] w fun e w' => e = .returned (.bool true) ∧ Below w.heap.size w w' := by
  obtain ⟨i0, hi, hz0, hz1, hz2⟩ := info_parts infoI
  obtain ⟨i1, hj, hy0, hy1, hy2⟩ := info_parts infoSl
  have HR := Lib.hid hR
  obtain ⟨k, hk⟩ : ∃ k : Nat, x % 4 = (k : Int) := ⟨(x % 4).toNat, by omega⟩
  have k4 : k < 4 := by omega
  clear hR
  go_enter Try.func4, Try.ntmps4
  go_wp2_with fail
  obtain ⟨W1, hW1⟩ : ∃ W1, w.alloc (.cells #[.slice (A 0) (L 0) (C 0), .slice (A 1) (L 1) (C 1), .slice (A 2) (L 2) (C 2), .slice (A 3) (L 3) (C 3)] 39) = W1 := ⟨_, rfl⟩
  have hbW : Below w.heap.size w W1 := by rw [← hW1]; exact (Below.refl _ _).alloc (Nat.le_refl _) _
  have hAr : Arr W1 w.heap.size 39 [.slice (A 0) (L 0) (C 0), .slice (A 1) (L 1) (C 1), .slice (A 2) (L 2) (C 2), .slice (A 3) (L 3) (C 3)] := by rw [← hW1]; exact Arr.new _ _ _
  rw [hW1]
  obtain ⟨bx, hbx⟩ : ∃ bx, w.heap.size = bx := ⟨_, rfl⟩
  have HBX := Lib.hid hbx
  rw [hbx] at hAr ⊢
  clear hW1 hbx
  refine (tr_new _).mono ?_
  rintro e w1 ⟨rfl, hn⟩
  obtain ⟨t0, b0⟩ := hn w hbW
  clear hn
  obtain ⟨T, hT⟩ : ∃ T, W1.heap.size = T := ⟨_, rfl⟩
  have HX := Lib.hid (And.intro hbW (And.intro hAr (And.intro t0 (And.intro b0 hT))))
  rw [hT]
  clear t0 b0 hbW hAr hT
  go_wp2_with fail
  refine (tr_new _).mono ?_
  rintro e w2 ⟨rfl, hn⟩
  obtain ⟨t1, b1⟩ := hn w HX.out.2.2.1.bel
  clear hn
  have hst := tb_start HX.out.2.1 HX.out.2.2.1 HX.out.2.2.2.1 t1 b1 (fun j => (tbS L F j).1)
  obtain ⟨col, hB⟩ := hst
  obtain ⟨U, hU⟩ : ∃ U, w1.heap.size = U := ⟨_, rfl⟩
  rw [HX.out.2.2.2.2, hU] at hB
  rw [hU]
  have HB := Lib.hid hB
  clear hB t1 b1 hU HX
  go_wp2_with fail
  obtain ⟨O1, hO1, hS1⟩ := HB.out.t (by decide)
  refine (tr_alloc hS1 10 (by unfold canA; simp) (by simp)).mono ?_
  rintro e w3 ⟨he, hn⟩
  obtain rfl : e = .returned (.int .i64 0) := he
  have HB2 := Lib.hid (HB.out.onT (ts' := tbS L F 0) hO1 hS1 hn)
  clear hn hS1 hO1 HB
  go_wp2_with fail
  obtain ⟨O2, hO2, hS2⟩ := HB2.out.u (by decide)
  refine (tr_alloc hS2 10 (by unfold canA; simp) (by simp)).mono ?_
  rintro e w4 ⟨he, hn⟩
  obtain rfl : e = .returned (.int .i64 0) := he
  have HB := Lib.hid (HB2.out.onU (us' := tbS L F 0) hO2 hS2 hn)
  clear hn hS2 hO2 HB2
  go_wp2
  go_loopw [7, 8, 9] (fun mv sv iv wr => ∃ (i : Nat) (col : Nat → Nat) (vals : List Value), i ≤ 4 ∧ iv = .int .i64 i ∧ Hid (vals.length = i ∧ BK 0 w wr col bx [.slice (A 0) (L 0) (C 0), .slice (A 1) (L 1) (C 1), .slice (A 2) (L 2) (C 2), .slice (A 3) (L 3) (C 3)] T U (tbS L F i) (tbS L F 0) mv ((List.range i).map fun j => ((tbS L F j).2.length : Int)) sv vals (fun j => (tbS L F j).1))) (fun _ _ i _ => 4 - (intOf i).toNat)
  case atStart => exact ⟨0, _, [], Nat.zero_le _, rfl, ⟨rfl, HB.out⟩⟩
  case round =>
    obtain ⟨i, col, vals, hi4, rfl, hst⟩ := hrel
    clear HB
    by_cases hlt : i < 4
    · obtain ⟨ai, hai⟩ : ∃ q, A i = q := ⟨_, rfl⟩
      obtain ⟨li, hli⟩ : ∃ q, L i = q := ⟨_, rfl⟩
      obtain ⟨ci, hci⟩ : ∃ q, C i = q := ⟨_, rfl⟩
      have hABC := Lib.hid (And.intro hai (And.intro hli hci))
      clear hai hli hci
      have hi0 : (0 : Int) ≤ i := by omega
      have hi4' : (i : Int) < 4 := by omega
      obtain ⟨m, hm⟩ : ∃ m, ((tbS L F i).2.length : Int) = m := ⟨_, rfl⟩
      have HM := Lib.hid hm
      clear hm
      go_wp2_with fail
      refine (bk_mark hst.out.2 HM.out).mono ?_
      rintro e w' ⟨rfl, rfl⟩
      have HA := Lib.hid (hst.out.2.made 0 ((Below.refl _ wr).alloc (Nat.le_refl _) (.cells #[.int .i64 m] 3)))
      have hrow := (HA.out.m (by decide)).1
      have hlm : ((List.range i).map fun j => ((tbS L F j).2.length : Int)).length = i := by simp
      have hbw := HA.out.bel.size
      go_wp2_with (at_builtin; refine wpList_append_fresh _ rfl _ _ 34 rfl w.heap.size 3 i0 (.int .i64 0) 1 8 Try.underlying34 hi hz0 hz1 hz2 rfl (by decide) _ _ _ rfl hrow ⟨wr.heap.size, 0, none⟩ 1 1 [.int .i64 m] rfl rfl (cell_one_new _ _ _) (by simp [Value.oneCell']) (by rw [hlm]; unfold maxLen; omega) (by rw [hlm]; omega) hbw ?_; intro v' w5 hown' hgrow hfr')
      have H3 := Lib.hid (HA.out.mark hown' hgrow hfr')
      clear HA hrow hown' hgrow hfr' hbw
      refine (bk_cells H3.out).mono ?_
      rintro e w6 ⟨a, n, c, rfl, col6, hB6, hV⟩
      have HA := Lib.hid (hB6.made 0 ((Below.refl _ w6).alloc (Nat.le_refl _) (.cells #[.slice a n c] 34)))
      have HV := Lib.hid (hV.made 0 ((Below.refl _ w6).alloc (Nat.le_refl _) (.cells #[.slice a n c] 34)))
      clear hB6 hV H3 hlm
      have hrow := (HA.out.s (by decide)).1
      have hbw := HA.out.bel.size
      have hvl := hst.out.1
      go_wp2_with (at_builtin; refine wpList_append_fresh _ rfl _ _ 40 rfl w.heap.size 34 i1 (.slice none 0 0) 1 24 Try.underlying40 hj hy0 hy1 hy2 rfl (by decide) _ _ _ rfl hrow ⟨w6.heap.size, 0, none⟩ 1 1 [.slice a n c] rfl rfl (cell_one_new _ _ _) (by simp [Value.oneCell']) (by rw [hvl]; unfold maxLen; omega) (by rw [hvl]; omega) hbw ?_; intro v'' w7 hown' hgrow hfr'; have hK7 := HA.out.snoc (by rw [hvl]; exact HV.out) hown' hgrow hfr'; have cA : w7.cell? ⟨bx, i, none⟩ = some (.slice ai li ci) := (tb_cell hK7 hlt).trans (by rw [hABC.out.1, hABC.out.2.1, hABC.out.2.2]))
      have H7 := Lib.hid hK7
      clear HA HV hrow hown' hgrow hfr' hbw hvl hK7
      have hcall := bk_some H7.out hi4 (A i) (C i) (HR.out i hlt).2.2 (by have h1 := (HR.out i hlt).1; have h2 := (HR.out i hlt).2.1; unfold maxLen at h2; omega)
      rw [hABC.out.1, hABC.out.2.1, hABC.out.2.2] at hcall
      have HCL := Lib.hid hcall
      clear hcall
      refine HCL.out.mono ?_
      rintro e w8 ⟨rfl, col8, hB8⟩
      have H8 := Lib.hid hB8
      clear hB8 H7 cA HCL
      go_wp2
      go_roundw
      case rel =>
        refine ⟨i + 1, col8, _, by omega, by go_num, ⟨?_, by rw [List.range_succ, List.map_append, List.map_singleton, HM.out]; exact H8.out⟩⟩
        rw [List.length_append, hst.out.1]; rfl
      case measure => simp [intOf]; omega
    · obtain rfl : i = 4 := by omega
      clear hlt
      obtain ⟨gm, cm, rfl⟩ := own_form4 ((hst.out.2.m (by decide)).1) (by simp)
      obtain ⟨gs, cs, rfl⟩ := own_form4 ((hst.out.2.s (by decide)).1) hst.out.1
      have H4 := Lib.hid hst.out
      clear hst
      obtain ⟨wa, rfl⟩ : ∃ wo : World, wo = wr := ⟨_, rfl⟩
      go_wp2
      rw [show ((4 : Nat) : Int) = 4 from rfl]
      simp only [hk]
      clear hk
      go_loopw [11] (fun iv wx => ∃ (n : Nat) (z : Int) (col : Nat → Nat), k ≤ n ∧ n ≤ 4 ∧ z = (n : Int) - 1 ∧ iv = .int .i64 z ∧ Hid (BK 0 w wx col bx [.slice (A 0) (L 0) (C 0), .slice (A 1) (L 1) (C 1), .slice (A 2) (L 2) (C 2), .slice (A 3) (L 3) (C 3)] T U (tbS L F n) (tbS L F 0) (.slice (some ⟨gm, 0, none⟩) 4 cm) ((List.range 4).map fun j => ((tbS L F j).2.length : Int)) (.slice (some ⟨gs, 0, none⟩) 4 cs) vals (fun j => (tbS L F j).1))) (fun iv _ => (intOf iv + 1).toNat)
      case atStart => exact ⟨4, 3, _, by omega, by omega, by omega, rfl, H4.out.2⟩
      case round =>
        obtain ⟨n, z, col2, hkn, hn4, hz, rfl, hB⟩ := hrel
        by_cases hge : (k : Int) ≤ z
        · obtain ⟨j, rfl⟩ : ∃ j : Nat, z = (j : Int) := ⟨z.toNat, by omega⟩
          obtain rfl : n = j + 1 := by omega
          clear hz
          have hj4 : j < 4 := by omega
          have hj0 : (0 : Int) ≤ j := by omega
          have hj4' : (j : Int) < 4 := by omega
          obtain ⟨m, hm⟩ : ∃ m, ((tbS L F j).2.length : Int) = m := ⟨_, rfl⟩
          have HM := Lib.hid hm
          have hlm : ((List.range 4).map fun j => ((tbS L F j).2.length : Int)).getD j 0 = m := by
            rw [← hm]
            match j, hj4 with
            | 0, _ => rfl
            | 1, _ => rfl
            | 2, _ => rfl
            | 3, _ => rfl
          have hvs : ∃ v, vals[j]? = some v := ⟨vals[j]'(by rw [H4.out.1]; exact hj4), by simp [H4.out.1, hj4]⟩
          obtain ⟨v, hv⟩ := hvs
          have hrow := bk_e hB.out hv
          obtain ⟨av, cv, rfl⟩ := IRow.any hrow.1
          obtain ⟨nv, hnv⟩ : ∃ nv, (tbS L F j).1.length = nv := ⟨_, rfl⟩
          have hv2 : vals[j]? = some (.slice av nv cv) := by rw [← hnv]; exact hv
          have HV2 := Lib.hid (And.intro hv2 hlm)
          have HD := Lib.hid (hB.out.made 0 (w' := wr.drew) ⟨rfl, rfl, rfl, Nat.le_refl _, fun _ _ => rfl⟩)
          clear hm hlm hv hv2 hnv hrow hB H4
          go_wp2_with fail
          go_region_held3 (fun wy => wy.cell? ⟨gm, j, none⟩ = some (.int .i64 m) ∧ wy.cell? ⟨gs, j, none⟩ = some (.slice av nv cv)) (exact ⟨bk_m HD.out rfl (by simp; omega) HV2.out.2, bk_s HD.out rfl HV2.out.1⟩)
            (first
              | (go_at_call 24; refine (bk_back HD.out j (by omega) (by omega) HM.out).mono ?_; rintro e wN ⟨rfl, colN, hN⟩; clear HD; have HD := Lib.hid hN; clear hN)
              | (go_at_call 26; refine (bk_mark HD.out HM.out).mono ?_; rintro e wN ⟨rfl, rfl⟩)
              | (go_at_call 33; refine (bk_cells HD.out).mono ?_; rintro e wN ⟨ax, nx, cx, rfl, colN, hN, hV⟩; clear HD; have HD := Lib.hid hN; have HV := Lib.hid hV; clear hN hV)
              | (go_at_call 35; refine (bk_alike HD.out HV.out (bk_e HD.out HV2.out.1) (by have := (tbS_len L F j).1; omega)).mono ?_; rintro e wN ⟨rfl, colN, hN⟩; clear HV HD; have HD := Lib.hid hN; clear hN))
          go_wp2
          go_roundw
          case rel => exact ⟨j, (j : Int) - 1, _, by omega, by omega, by omega, by go_num, HD.out⟩
          case measure => simp [intOf]
        · obtain rfl : n = k := by omega
          have HZ := Lib.hid hB.out
          have hz' : z < (n : Int) := by omega
          clear hz hge hB H4 hkn hn4
          obtain ⟨wb, rfl⟩ : ∃ wo : World, wo = wr := ⟨_, rfl⟩
          go_wp2
          go_loopw [12] (fun iv wx => ∃ (i : Nat) (col : Nat → Nat), i ≤ n ∧ iv = .int .i64 i ∧ Hid (BK 0 w wx col bx [.slice (A 0) (L 0) (C 0), .slice (A 1) (L 1) (C 1), .slice (A 2) (L 2) (C 2), .slice (A 3) (L 3) (C 3)] T U (tbS L F n) (tbS L F i) (.slice (some ⟨gm, 0, none⟩) 4 cm) ((List.range 4).map fun j => ((tbS L F j).2.length : Int)) (.slice (some ⟨gs, 0, none⟩) 4 cs) vals (fun j => (tbS L F j).1))) (fun iv _ => n - (intOf iv).toNat)
          case atStart => exact ⟨0, _, Nat.zero_le _, rfl, HZ.out⟩
          case round =>
            obtain ⟨i, col3, hin, rfl, hB⟩ := hrel
            clear HZ
            by_cases hlt : i < n
            · obtain ⟨ai, hai⟩ : ∃ q, A i = q := ⟨_, rfl⟩
              obtain ⟨li, hli⟩ : ∃ q, L i = q := ⟨_, rfl⟩
              obtain ⟨ci, hci⟩ : ∃ q, C i = q := ⟨_, rfl⟩
              have hi4 : i < 4 := by omega
              have hi0 : (0 : Int) ≤ i := by omega
              have hi4' : (i : Int) < 4 := by omega
              have cA : wr.cell? ⟨bx, i, none⟩ = some (.slice ai li ci) := (tb_cell hB.out hi4).trans (by rw [hai, hli, hci])
              have hln := tbS_len L F i
              have hcall := bk_someU hB.out hln.1 (by omega) (A i) (L i) (C i) (F i) (HR.out i hi4).2.2 (by have h1 := (HR.out i hi4).1; have h2 := (HR.out i hi4).2.1; unfold maxLen at h2; omega)
              rw [show smR (F i) (tbS L F i) (min (L i) 60) = tbS L F (i + 1) from rfl, hai, hli, hci] at hcall
              have HCL := Lib.hid hcall
              clear hcall hai hli hci hB hln
              go_wp2_with fail
              refine HCL.out.mono ?_
              rintro e w8 ⟨rfl, col8, hB8⟩
              have H8 := Lib.hid hB8
              clear hB8 cA HCL
              go_wp2
              go_roundw
              case rel => exact ⟨i + 1, col8, by omega, by go_num, H8.out⟩
              case measure => simp [intOf]; omega
            · obtain rfl : i = n := by omega
              clear hlt hin
              obtain ⟨ai, hai⟩ : ∃ q, A 3 = q := ⟨_, rfl⟩
              obtain ⟨li, hli⟩ : ∃ q, L 3 = q := ⟨_, rfl⟩
              obtain ⟨ci, hci⟩ : ∃ q, C 3 = q := ⟨_, rfl⟩
              have hR3 := HR.out 3 (by omega)
              have hl3 : (li : Int) ≤ 9223372036854775807 := by have h1 := hR3.1; have h2 := hR3.2.1; unfold maxLen at h2; omega
              have hR4 := hR3.2.2
              rw [hai, hli, hci] at hR4
              have HABC := Lib.hid (And.intro (And.intro hai (And.intro hli hci)) (And.intro hR4 hl3))
              clear hR3 hR4 hl3 hai hli hci
              have cA : wr.cell? ⟨bx, 3, none⟩ = some (.slice ai li ci) := (tb_cell hB.out (i := 3) (by omega)).trans (by rw [HABC.out.1.1, HABC.out.1.2.1, HABC.out.1.2.2])
              have hln := Lib.hid (tbS_len L F i)
              go_wp2_with fail
              refine (bk_someT hB.out hln.out.1 (by have := hln.out.2; omega) ai li ci (F 3) HABC.out.2.1 HABC.out.2.2).mono ?_
              rintro e w8 ⟨rfl, col8, hB8⟩
              have H8 := Lib.hid hB8
              clear cA hB8
              have cA : w8.cell? ⟨bx, 3, none⟩ = some (.slice ai li ci) := (tb_cell H8.out (i := 3) (by omega)).trans (by rw [HABC.out.1.1, HABC.out.1.2.1, HABC.out.1.2.2])
              go_wp2_with fail
              refine (bk_someU H8.out hln.out.1 (by have := hln.out.2; omega) ai li ci (F 3) HABC.out.2.1 HABC.out.2.2).mono ?_
              rintro e w9 ⟨rfl, col9, hB9⟩
              have H9 := Lib.hid hB9
              clear cA hB9 H8 hB
              obtain ⟨sf, hsf⟩ : ∃ sf, smR (F 3) (tbS L F i) (min li 60) = sf := ⟨_, rfl⟩
              have hkp := (smR_keeps (F 3) (tbS L F i) (Nat.zero_le _) (min li 60)).2.2.2.2 hln.out.1
              rw [hsf] at H9 hkp
              obtain ⟨mf, hmf⟩ : ∃ mf, sf.2.length = mf := ⟨_, rfl⟩
              have HMF := Lib.hid (And.intro hmf hkp)
              clear hsf hmf hkp hln
              go_wp2_with fail
              refine (bk_cells H9.out).mono ?_
              rintro e wc ⟨ax, nx, cx, rfl, colc, hN, hV⟩
              have HN := Lib.hid (And.intro hN hV)
              clear hN hV H9
              go_wp2_with fail
              refine (bk_cellsU HN.out.1 HN.out.2).mono ?_
              rintro e wd ⟨ay, ny, cy, rfl, cold, hN, hV, hV2⟩
              have HN2 := Lib.hid (And.intro hN (And.intro hV hV2))
              clear hN hV hV2 HN
              go_wp2_with fail
              refine (bk_alike HN2.out.1 HN2.out.2.2 HN2.out.2.1 (by have := HMF.out.2; omega)).mono ?_
              rintro e we ⟨rfl, cole, hN⟩
              have HE := Lib.hid hN
              clear hN HN2
              obtain ⟨Ot, _, ht⟩ := HE.out.t (by decide)
              obtain ⟨Ou, _, hu⟩ := HE.out.u (by decide)
              have HTU := Lib.hid (And.intro ht hu)
              clear ht hu
              go_wp2_with fail
              refine (tr_mark HTU.out.1).mono ?_
              rintro e w' ⟨he, rfl⟩
              rw [HMF.out.1] at he
              subst he
              go_wp2_with fail
              refine (tr_mark HTU.out.2).mono ?_
              rintro e w' ⟨he, rfl⟩
              rw [HMF.out.1] at he
              subst he
              go_wp2_with fail
              refine (tworks_any _).mono ?_
              rintro e wf ⟨rfl, hc⟩
              have HC := Lib.hid hc
              clear hc
              go_wp2
              go_ret
              exact ⟨rfl, fb_call HE.out.bel HC.out⟩
end Go.Proofs.Ytfkkkndigkchcaa
