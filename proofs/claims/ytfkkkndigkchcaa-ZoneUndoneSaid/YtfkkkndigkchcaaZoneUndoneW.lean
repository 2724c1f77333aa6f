/- The walk of ZoneUndone. No condition. -/
import Derived.Test.YtfkkkndigkchcaaZoneJ
import Derived.Test.YtfkkkndigkchcaaOpenN
import Derived.Test.YtfkkkndigkchcaaZoneUndoneP
namespace Go.Proofs.Ytfkkkndigkchcaa
open Go.ChangeShapes Go.WideShapes Go.ChangeAt Go.RowKit
attribute [local irreducible] Calls

theorem takeL_putL {l : List Nat} {i s : Nat} (hi : i ≤ l.length) : takeL (putL l i s) i = l := by
  unfold takeL putL
  have hti : (l.take i).length = i := by simp; omega
  rw [List.take_append_of_le_length (by omega), List.take_of_length_le (by omega), List.drop_append, hti, show i + 1 - i = 1 by omega, List.drop_of_length_le (by omega), List.nil_append]
  simp
theorem two_made (w : World) (t : TypeId) (z : Value) (n : Nat) : let W := ((w.alloc (.cells (Array.replicate n z) t)).alloc (.cells (Array.replicate n z) t)).drew
    Arr W w.heap.size t (List.replicate n z) ∧ Arr W (w.heap.size + 1) t (List.replicate n z) ∧ Below w.heap.size w W := by
  intro W
  have e : Array.replicate n z = (List.replicate n z).toArray := by simp
  have h1 : Arr (w.alloc (.cells (List.replicate n z).toArray t)) w.heap.size t (List.replicate n z) := Arr.new w t _
  have h2 := Arr.new (w.alloc (.cells (List.replicate n z).toArray t)) t (List.replicate n z)
  have h3 := h1.alloc (.cells (List.replicate n z).toArray t)
  rw [World.size_alloc] at h2
  show Arr W _ _ _ ∧ Arr W _ _ _ ∧ _
  have eW : W = ((w.alloc (.cells (List.replicate n z).toArray t)).alloc (.cells (List.replicate n z).toArray t)).drew := by rw [← e]
  rw [eW]
  exact ⟨h3, h2, bel_drew (fb_alloc (fb_alloc (Below.refl _ _) _) _)⟩
theorem zno_range2 (i n : Nat) (h : i ≤ n) : zno [[], List.range i, []] (n : Int) := by
  intro z t ht
  match z with
  | 0 => cases ht
  | 1 => have := List.mem_range.1 (show t ∈ List.range i from ht); omega
  | 2 => cases ht
  | z + 3 => cases ht
theorem range_put2 (i : Nat) : putL (List.range i) (List.range i).length i = List.range (i + 1) := by
  unfold putL
  rw [List.take_length, List.drop_length, List.range_succ]

set_option maxRecDepth 100000 in
set_option maxHeartbeats 4000000 in
theorem zoneUndone_walk (x y : Int) (a : Option Addr) (len lc : Nat) (F : Nat → Int) (w : World) (hR : Nums w w.heap.size .u8 (.slice a len lc) len F) (x0 : 0 ≤ x) (x1 : x ≤ 255) (y0 : 0 ≤ y) (y1 : y ≤ 255) (hl : (len : Int) ≤ 9223372036854775807) :
    Calls Try.prog 14 #[.int .u8 x, .int .u8 y, .slice a len lc] w fun e w' => e = .returned (.bool true) ∧ Below w.heap.size w w' := by
  have HR := Lib.hid hR
  clear hR
  obtain ⟨m, hm⟩ : ∃ m : Nat, x % 20 = m := ⟨(x % 20).toNat, by omega⟩
  have hm20 : m < 20 := by omega
  go_enter Try.func14, Try.ntmps14
  go_wp2_with fail
  refine (tr_new w).mono ?_
  rintro e w0 ⟨rfl, hT0⟩
  obtain ⟨T, hT⟩ : ∃ T, w.heap.size = T := ⟨_, rfl⟩
  have HT := Lib.hid (hT0 w (Below.refl _ _)).1
  rw [hT] at HT ⊢
  clear hT0 hT
  go_wp2_with fail
  refine (zl_new (col := fun _ => 1) (c := 1) HT.out (fun _ _ => rfl) 3 30 (by decide) (by decide) (by decide) (by decide)).mono ?_
  rintro e w1 ⟨b, q, rfl, hbT, hN⟩
  have HD := Lib.hid (show ZL w w1 _ 1 b ⟨0, 3, 30⟩ 1 q [[], [], []] from hN.st)
  clear hN HT hbT
  go_wp2
  go_loopw [9] (fun x wr => ∃ i : Nat, i ≤ m ∧ x = .int .i64 i ∧ Hid (∃ col, ZL w wr col 1 b ⟨0, 3, 30⟩ (1 + 1000 * i) q [[], List.range i, []])) (fun x _ => m - (intOf x).toNat)
  case atStart => exact ⟨0, by omega, rfl, Lib.hid ⟨_, HD.out⟩⟩
  case round =>
    obtain ⟨i, hi, rfl, hst⟩ := hrel
    obtain ⟨col, hZ⟩ := hst.out
    by_cases hlt : i < m
    · have qp := Lib.hid (zl_put_end hZ (by omega) 1 i (by decide) (show i < 30 by omega) (zno_range2 i i (Nat.le_refl _)))
      have hi0 : (i : Int) < m := by omega
      clear hst hZ
      go_wp2_with (go_at_call 37; refine qp.out.mono ?_; rintro e w2 ⟨rfl, hN⟩)
      go_roundw
      case rel => exact ⟨i + 1, by omega, by go_num, Lib.hid ⟨_, by have := hN.st.mono (n := 1 + 1000 * (i + 1)) (by omega); rw [← range_put2]; exact this⟩⟩
      case measure => simp [intOf]; omega
    · obtain rfl : i = m := by omega
      obtain ⟨wa, rfl⟩ : ∃ wo : World, wo = wr := ⟨_, rfl⟩
      have HZ := Lib.hid (ZE.of hZ)
      have hge : ¬ ((i : Int) < i) := by omega
      clear hst hZ HD hlt hi
      obtain ⟨p, hp⟩ : ∃ p : Nat, y % ((i : Int) + 1) = p := ⟨(y % ((i : Int) + 1)).toNat, by have := Int.emod_nonneg y (show (i : Int) + 1 ≠ 0 by omega); omega⟩
      have hpi : p ≤ i := by have := Int.emod_lt_of_pos y (show 0 < (i : Int) + 1 by omega); omega
      go_wp2_with fail
      refine (zl_list HZ.out.z 1).mono ?_
      rintro e w2 ⟨r, rfl, hr, hb⟩
      rw [show zget [[], List.range i, []] 1 = List.range i from rfl] at hr
      obtain ⟨hx, hcap, rfl⟩ := hr.any
      rw [ints_length, List.length_range] at hr ⊢
      have HD := Lib.hid (HZ.out.new2 hb (Res.newRow hr (Nat.le_refl _)))
      clear hb hr
      have hlr : ([[], List.range i, []].getD 1 []).length = i := by show (List.range i).length = i; simp
      go_wp2_with fail
      refine (zl_put HD.out.z (by omega) 1 25 p (by decide) (by decide) (zno_range2 i 25 (by omega)) (by rw [hlr]; exact hpi)).mono ?_
      rintro e w3 ⟨rfl, hN⟩
      have HD := Lib.hid (show ZE w w3 _ b ⟨0, 3, 30⟩ (1 + 1000 * i + 1000) q [[], putL (List.range i) p 25, []] _ yes from HD.out.zln hN)
      clear hN hlr
      have hlp : (putL (List.range i) p 25).length = i + 1 := by rw [putL_len (by simp; exact hpi)]; simp
      have ql := zl_len HD.out.z 1
      rw [show zget [[], putL (List.range i) p 25, []] 1 = putL (List.range i) p 25 from rfl, hlp] at ql
      have QL := Lib.hid ql
      have hi1 : ((i + 1 : Nat) : Int) = (i : Int) + 1 := by omega
      clear ql
      go_wp2_with fail
      refine QL.out.mono ?_
      rw [hi1]
      rintro e w4 ⟨rfl, hb⟩
      have HD := Lib.hid (HD.out.below hb)
      clear hb QL hi1
      have hat : (putL (List.range i) p 25).getD p 0 = 25 := by rw [putL_get (by simp; exact hpi), if_neg (by omega), if_pos rfl]
      have qt := zl_take HD.out.z (by omega) 1 p (by show p < (putL (List.range i) p 25).length; rw [hlp]; omega)
      rw [show [[], putL (List.range i) p 25, []].getD 1 [] = putL (List.range i) p 25 from rfl, hat, takeL_putL (by simp; exact hpi)] at qt
      have QT := Lib.hid qt
      clear qt hat hlp
      go_wp2_with fail
      refine QT.out.mono ?_
      rintro e w5 ⟨rfl, hN⟩
      have HD := Lib.hid (show ZE w w5 _ b ⟨0, 3, 30⟩ (1 + 1000 * i + 1000 + 1000) q [[], List.range i, []] _ yes from HD.out.zln hN)
      clear hN QT
      go_wp2_with fail
      refine (zl_list HD.out.z 1).mono ?_
      rintro e w6 ⟨r, rfl, hr, hb⟩
      rw [show zget [[], List.range i, []] 1 = List.range i from rfl] at hr
      have HD := Lib.hid (HD.out.below hb)
      have HRR := Lib.hid hr
      clear hb hr
      go_wp2_with fail
      refine (zalike_any _ _ _ (ints (List.range i)) (ints (List.range i)) _ (HRR.out.ints (Nat.le_refl _)) (IRow.ints HD.out.p2 (Nat.le_refl _)) (by rw [ints_length, List.length_range]; omega)).mono ?_
      rw [alk_same]
      rintro e w7 ⟨rfl, hb⟩
      have HD := Lib.hid (HD.out.below hb)
      clear hb HRR
      have hmk := run_make_arr (P := Try.prog) 34 3 (.int .i64 0) 8 Try.underlying34 (by kernel_rfl) rfl i (by omega) (by omega)
      have HMK := Lib.hid hmk
      clear hmk
      go_upto_region 13 with fail
      have hmk := HMK.out
      refine wp_gen fun a0 wq ha0 hwq => ?_
      refine Code.wp_mono (Q := fun e a W => e = .normal ∧ ∃ P B, a = (((((a0.put (some 71) (.int .i64 i)).put (some 72) (.slice (some ⟨P, 0, none⟩) i i)).put (some 73) (.int .i64 i)).put (some 74) (.slice (some ⟨B, 0, none⟩) i i)).put (some 11) (.slice (some ⟨P, 0, none⟩) i i)).put (some 12) (.slice (some ⟨B, 0, none⟩) i i) ∧
        wq.heap.size ≤ P ∧ wq.heap.size ≤ B ∧ P ≠ B ∧ Below wq.heap.size wq W ∧ Arr W P 3 (List.replicate i (.int .i64 0)) ∧ Arr W B 3 (List.replicate i (.int .i64 0))) ?_ ?_
      rotate_left
      · subst ha0
        subst hwq
        go_region
        · obtain ⟨h1, h2, h3⟩ := two_made wq 3 (.int .i64 0) i
          exact ⟨rfl, wq.heap.size, wq.heap.size + 1, by simp only [Act.put, List.setIfInBounds_toArray, List.set_cons_zero, List.set_cons_succ], Nat.le_refl _, Nat.le_succ _, by omega, h3, h1, h2⟩
        · obtain ⟨h1, h2, h3⟩ := two_made wq 3 (.int .i64 0) i
          exact ⟨rfl, wq.heap.size + 1, wq.heap.size, by simp only [Act.put, List.setIfInBounds_toArray, List.set_cons_zero, List.set_cons_succ], Nat.le_succ _, Nat.le_refl _, by omega, h3, h2, h1⟩
      · rintro e ax W ⟨rfl, P, B, rfl, hP0, hB0, hPB, hb, hAP, hAB⟩
        subst ha0
        subst hwq
        simp only [Act.put, List.setIfInBounds_toArray, List.set_cons_zero, List.set_cons_succ]
        have HPB := Lib.hid (And.intro hP0 (And.intro hB0 hPB))
        have HA := Lib.hid (And.intro hb (And.intro hAP hAB))
        clear hP0 hB0 hPB hb hAP hAB hmk HMK
        have hPs := HPB.out.1
        have hBs := HPB.out.2.1
        have hPB := HPB.out.2.2
        have hBP : B ≠ P := Ne.symm hPB
        go_wp2
        go_loopw [13] (fun x wr => ∃ (k : Nat) (pl : List Int), k ≤ i ∧ x = .int .i64 k ∧ Hid (pl.length = i ∧ ∀ j, j < k → pl.getD j 0 = (j : Int)) ∧ Arr wr P 3 (pl.map (Value.int .i64)) ∧ Hid (Arr wr B 3 ((List.replicate i 0).map (Value.int .i64)) ∧ Below wq.heap.size wq wr)) (fun x _ => i - (intOf x).toNat)
        case atStart => exact ⟨0, List.replicate i 0, Nat.zero_le _, rfl, ⟨by simp, fun j hj => by omega⟩, by rw [List.map_replicate]; exact HA.out.2.1, by rw [List.map_replicate]; exact HA.out.2.2, HA.out.1⟩
        case round =>
          obtain ⟨k, pl, hk, rfl, hpl, hP, hO⟩ := hrel
          by_cases hlt : k < i
          · have hc := hP.int (j := k) (by rw [hpl.out.1]; exact hlt)
            have hf := hP.frozen k
            have hset := hP.setInt k (k : Int)
            have HS := Lib.hid (And.intro hset (hO.out.1.set_other ⟨P, k, none⟩ (.int .i64 k) hBP))
            have k0 : (0 : Int) ≤ k := by omega
            have k1 : (k : Int) < i := by omega
            clear hset hP
            go_wp2
            go_roundw
            case rel => exact ⟨k + 1, pl.set k k, by omega, by go_num, ⟨by rw [List.length_set]; exact hpl.out.1, fun j hj => by
                rw [getD_setI]
                by_cases e : j = k
                · rw [if_pos ⟨e.symm, by rw [hpl.out.1]; omega⟩, e]
                · rw [if_neg (fun h => e h.1.symm)]; exact hpl.out.2 j (by omega)⟩, HS.out.1, HS.out.2, hO.out.2.setCell hPs _⟩
            case measure => simp [intOf]; omega
          · obtain rfl : k = i := by omega
            obtain ⟨wb, rfl⟩ : ∃ wo : World, wo = wr := ⟨_, rfl⟩
            have HT3 := Lib.hid (show Tot pl by
              have : pl = ints (List.range k) := list_ext_getD (by rw [hpl.out.1, ints_length, List.length_range]) fun j hj => by
                rw [hpl.out.1] at hj
                rw [hpl.out.2 j hj, ints_get]; simp [List.getD_eq_getElem?_getD, hj]
              rw [this]; exact tot_ints k)
            have HP3 := Lib.hid (And.intro hP (And.intro hO.out hpl.out.1))
            clear hP hO hpl hlt hk HA
            go_wp2
            go_loopw [14] (fun x wr => ∃ (t : Nat) (pl : List Int), t ≤ len ∧ t ≤ k ∧ x = .int .i64 t ∧ Hid (Tot pl) ∧ Hid (pl.length = k) ∧ Arr wr P 3 (pl.map (Value.int .i64)) ∧ Hid (Arr wr B 3 ((List.replicate k 0).map (Value.int .i64)) ∧ Below wq.heap.size wq wr)) (fun x _ => len - (intOf x).toNat)
            case atStart => exact ⟨0, pl, Nat.zero_le _, Nat.zero_le _, rfl, HT3, HP3.out.2.2, HP3.out.1, HP3.out.2.1⟩
            case round =>
              obtain ⟨t, pl, htl, htk, rfl, hTp, hpl, hP, hO⟩ := hrel
              by_cases hlt : t < len
              · by_cases hltk : t < k
                · obtain ⟨a', c', e, _, _, hcells⟩ := HR.out
                  injection e with e1 e2 e3
                  subst e1 e3
                  obtain ⟨Bl, o, rfl, hb, hcells⟩ := hcells.resolve_left (by omega)
                  have hx := hcells t hlt
                  obtain ⟨v, hv⟩ : ∃ v, F t = v := ⟨_, rfl⟩
                  rw [hv] at hx
                  have bx := u8_bd hx.2
                  have hbw : Below w.heap.size w wr := HD.out.bel.trans (hO.out.2.mono HD.out.bel.size)
                  have cv : wr.cell? ⟨Bl, o + t, none⟩ = some (.int .u8 v) := (hbw.cell (p := ⟨Bl, o + t, none⟩) hb).trans hx.1
                  obtain ⟨z, hz⟩ : ∃ z : Nat, v % (k : Int) = z := ⟨(v % (k : Int)).toNat, by have := Int.emod_nonneg v (show (k : Int) ≠ 0 by omega); omega⟩
                  have hzk : z < k := by have := Int.emod_lt_of_pos v (show 0 < (k : Int) by omega); omega
                  have v0 := bx.1
                  have v1 := bx.2
                  have hk0 : ((k : Int) == 0) = false := by simp; omega
                  have hct := hP.int (j := t) (by rw [hpl.out]; exact hltk)
                  have hcz := hP.int (j := z) (by rw [hpl.out]; exact hzk)
                  have hft := hP.frozen t
                  have hfz := hP.frozen z
                  have hs1 := hP.setInt t (pl.getD z 0)
                  have hs2 := hs1.setInt z (pl.getD t 0)
                  have cz2 : (wr.setCell ⟨P, t, none⟩ (.int .i64 (pl.getD z 0))).cell? ⟨P, z, none⟩ = some (.int .i64 ((pl.set t (pl.getD z 0)).getD z 0)) := hs1.int (by rw [List.length_set, hpl.out]; exact hzk)
                  have fz2 := hs1.frozen z
                  have HS := Lib.hid (And.intro (show Arr _ P 3 ((swp pl t z).map (Value.int .i64)) from hs2) (And.intro ((hO.out.1.set_other ⟨P, t, none⟩ (.int .i64 (pl.getD z 0)) hBP).set_other ⟨P, z, none⟩ (.int .i64 (pl.getD t 0)) hBP) (And.intro ((hO.out.2.setCell hPs (p := ⟨P, t, none⟩) (.int .i64 (pl.getD z 0))).setCell hPs (p := ⟨P, z, none⟩) (.int .i64 (pl.getD t 0)))
                    (tot_swp hTp.out (i := t) (k := z) (by rw [hpl.out]; exact hltk) (by rw [hpl.out]; exact hzk)))))
                  obtain ⟨p1, hp1⟩ : ∃ p1, pl.getD t 0 = p1 := ⟨_, rfl⟩
                  obtain ⟨p2, hp2⟩ : ∃ p2, pl.getD z 0 = p2 := ⟨_, rfl⟩
                  obtain ⟨p3, hp3⟩ : ∃ p3, (pl.set t (pl.getD z 0)).getD z 0 = p3 := ⟨_, rfl⟩
                  rw [hp3] at cz2
                  rw [hp1] at hct HS
                  rw [hp2] at hcz HS cz2 fz2
                  have HPL := Lib.hid (show (swp pl t z).length = k by rw [swp_len]; exact hpl.out)
                  have t0 : (0 : Int) ≤ t := by omega
                  have t1 : (t : Int) < len := by omega
                  have t2 : (t : Int) < k := by omega
                  have z0 : (0 : Int) ≤ z := by omega
                  have z1 : (z : Int) < k := by omega
                  clear hs1 hs2 hp1 hp2 hp3 hx bx hcells hb hv hTp hpl hP hO hbw
                  go_upto_region 22 with fail
                  go_region
                  · go_wp2
                    go_roundw
                    case rel => exact ⟨t + 1, swp pl t z, by omega, by omega, by go_num, HS.out.2.2.2, HPL.out, HS.out.1, HS.out.2.1, bel_drew HS.out.2.2.1⟩
                    case measure => simp [intOf]; omega
                · obtain rfl : k = t := by omega
                  obtain ⟨wc, rfl⟩ : ∃ wo : World, wo = wr := ⟨_, rfl⟩
                  have HT4 := Lib.hid (And.intro hTp.out (And.intro hpl.out (And.intro hO.out (And.intro hP (HD.out.bel.trans (hO.out.2.mono HD.out.bel.size))))))
                  clear hTp hpl hP hO
                  go_wp2
                  go_loopw [16] (fun x wr => ∃ (t : Nat) (bk : List Int), t ≤ k ∧ x = .int .i64 t ∧ Hid (Inv pl bk k t) ∧ Arr wr B 3 (bk.map (Value.int .i64)) ∧ Arr wr P 3 (pl.map (Value.int .i64)) ∧ Hid (Below wq.heap.size wq wr)) (fun x _ => k - (intOf x).toNat)
                  case atStart => exact ⟨0, List.replicate k 0, Nat.zero_le _, rfl, ⟨by simp, fun j hj => by omega⟩, HT4.out.2.2.1.1, HT4.out.2.2.2.1, HT4.out.2.2.1.2⟩
                  case round =>
                    obtain ⟨u, bk, hu, rfl, hinv, hB4, hP4, hb4⟩ := hrel
                    by_cases hlu : u < k
                    · have hr := HT4.out.1.1 u (by rw [HT4.out.2.1]; exact hlu)
                      have hcp := hP4.int (j := u) (by rw [HT4.out.2.1]; exact hlu)
                      have hput := hinv.out.put HT4.out.1 HT4.out.2.1 hlu
                      obtain ⟨z, hz⟩ := Int.eq_ofNat_of_zero_le hr.1
                      rw [hz] at hcp hput
                      rw [Int.toNat_natCast] at hput
                      have hzk : z < k := by have := hr.2; rw [HT4.out.2.1] at this; omega
                      have hcb := hB4.int (j := z) (by rw [hinv.out.1]; exact hzk)
                      have hfb := hB4.frozen z
                      have HS := Lib.hid (And.intro (hB4.setInt z (u : Int)) (And.intro (hP4.set_other ⟨B, z, none⟩ (.int .i64 u) hPB) (And.intro (hb4.out.setCell hBs (p := ⟨B, z, none⟩) (.int .i64 u)) hput)))
                      have u0 : (0 : Int) ≤ u := by omega
                      have u1 : (u : Int) < k := by omega
                      have z0 : (0 : Int) ≤ z := by omega
                      have z1 : (z : Int) < k := by omega
                      clear hr hz hput hB4 hP4 hinv hb4
                      go_wp2
                      go_roundw
                      case rel => first | exact ⟨u + 1, bk.set z u, by omega, by go_num, HS.out.2.2.2, HS.out.1, HS.out.2.1, HS.out.2.2.1⟩ | ((repeat apply Exists.intro); exact ⟨⟨u + 1, bk.set z u, by omega, by go_num, HS.out.2.2.2, HS.out.1, HS.out.2.1, HS.out.2.2.1⟩, rfl⟩)
                      case measure => simp [intOf]; omega
                    · obtain rfl : k = u := by omega
                      obtain ⟨wd, rfl⟩ : ∃ wo : World, wo = wr := ⟨_, rfl⟩
                      obtain ⟨cl, hcl, hcP, hcB⟩ : ∃ cl, ZE w wd cl b ⟨0, 3, 30⟩ (1 + 1000 * k + 1000 + 1000) q [[], List.range k, []] (fun W => (IRow W wa.heap.size (.slice hx k hcap) (ints (List.range k))) ∧ Arr W P 3 (pl.map (Value.int .i64)) ∧ Arr W B 3 (bk.map (Value.int .i64))) yes ∧ cl P = 2 ∧ cl B = 2 :=
                        ⟨_, HD.out.new2 hb4.out ((HD.out.2.1.made 2 hb4.out).and ((Res.arr hP4 (recol_ge hPs)).and (Res.arr hB4 (recol_ge hBs)))), recol_ge hPs, recol_ge hBs⟩
                      have HD5 := Lib.hid hcl
                      have HC := Lib.hid (And.intro hcP hcB)
                      clear hcl hcP hcB
                      have HI := Lib.hid (And.intro hinv.out (And.intro HT4.out.1 (And.intro HT4.out.2.1 (And.intro (tot_perm HT4.out.1 HT4.out.2.1) (tot_perm (hinv.out.tot HT4.out.1 HT4.out.2.1) hinv.out.1)))))
                      clear hB4 hP4 hinv hb4 HT4
                      have hI := Ints.arr (n := wd.heap.size) HD5.out.p2.2.1 (Nat.le_refl _)
                      rw [HI.out.2.2.1] at hI
                      have QR := Lib.hid (zl_re_ok HD5.out.z (by omega) 1 _ pl hI (fun bl o n c e => by injection e with e _ _; injection e with e; injection e with e _ _; subst e; rw [HC.out.1]; decide) ⟨by decide, by
                        show permOk pl (List.range k).length = true
                        rw [List.length_range]; exact HI.out.2.2.2.1⟩)
                      clear hI
                      go_wp2_with fail
                      refine QR.out.mono ?_
                      rintro e w10 ⟨rfl, hN⟩
                      have HD6 := Lib.hid (show ZE w w10 _ b ⟨0, 3, 30⟩ (1 + 1000 * k + 1000 + 1000 + 1000) q [[], reL (List.range k) pl, []] _ yes from HD5.out.zln hN)
                      have HCB := Lib.hid (show recol wd.heap.size cl 1 B = 2 by rw [recol_lt HD5.out.p2.2.2.lt]; exact HC.out.2)
                      clear hN QR
                      go_wp2
                      go_loopw [17] (fun x wr => ∃ t : Nat, t ≤ k ∧ x = .int .i64 t ∧ Hid (∃ col', ZE w wr col' b ⟨0, 3, 30⟩ (1 + 1000 * k + 1000 + 1000 + 1000) q [[], reL (List.range k) pl, []] (fun W => (IRow W wa.heap.size (.slice hx k hcap) (ints (List.range k))) ∧ Arr W P 3 (pl.map (Value.int .i64)) ∧ Arr W B 3 (bk.map (Value.int .i64))) yes ∧ col' B = 2)) (fun x _ => k - (intOf x).toNat)
                      case atStart => exact ⟨0, Nat.zero_le _, rfl, Lib.hid ⟨_, HD6.out, HCB.out⟩⟩
                      case round =>
                        obtain ⟨t5, ht5, rfl, hst⟩ := hrel
                        obtain ⟨col', hZ5, hcB⟩ := hst.out
                        by_cases hlt5 : t5 < k
                        · have hr := HI.out.2.1.1 t5 (by rw [HI.out.2.2.1]; exact hlt5)
                          have hrv := reL_get (List.range k) pl (j := t5) (by rw [HI.out.2.2.1]; exact hlt5)
                          obtain ⟨z, hz⟩ := Int.eq_ofNat_of_zero_le hr.1
                          have hzk : z < k := by have := hr.2; rw [HI.out.2.2.1] at this; omega
                          rw [hz, Int.toNat_natCast, show (List.range k).getD z 0 = z by simp [List.getD_eq_getElem?_getD, hzk]] at hrv
                          have qa := zl_at hZ5.z 1 (t5 : Int)
                          have hzat : zat [[], reL (List.range k) pl, []] 1 (t5 : Int) = ((z : Int), 0) := by
                            unfold zat
                            rw [show zget [[], reL (List.range k) pl, []] 1 = reL (List.range k) pl from rfl, reL_len, HI.out.2.2.1, if_pos (by omega), Int.toNat_natCast, hrv]
                          rw [hzat] at qa
                          have QA := Lib.hid qa
                          have hz5 := Lib.hid (And.intro hZ5 (And.intro hcB hz))
                          obtain ⟨G, cG, hG, _⟩ := IRow.formc hZ5.p2.1 (by rw [ints_length, List.length_range]; omega)
                          injection hG with hG1 hG2 hG3
                          subst hG1 hG3
                          have z0 : (0 : Int) ≤ z := by omega
                          have z1 : (z : Int) < k := by omega
                          have t50 : (0 : Int) ≤ t5 := by omega
                          have t51 : (t5 : Int) < k := by omega
                          clear hst hZ5 hcB qa hzat hr hrv hz hG2
                          go_upto_region 33 with (go_at_call 64; refine QA.out.mono ?_; rintro e w11 ⟨rfl, hb⟩)
                          have HD7 := Lib.hid (hz5.out.1.below hb)
                          have hcB7 := Lib.hid (show recol wr.heap.size col' 9 B = 2 by rw [recol_lt hz5.out.1.p2.2.2.lt]; exact hz5.out.2.1)
                          have cP : w11.cell? ⟨P, t5, none⟩ = some (.int .i64 z) := by rw [← hz5.out.2.2]; exact HD7.out.p2.2.1.int (by rw [HI.out.2.2.1]; exact hlt5)
                          have cG : w11.cell? ⟨G, z, none⟩ = some (.int .i64 z) := by
                            have := IRow.cell HD7.out.p2.1 (j := z) (by rw [ints_length, List.length_range]; exact hzk)
                            rw [this, ints_get, show (List.range k).getD z 0 = z by simp [List.getD_eq_getElem?_getD, hzk]]
                          clear hb QA
                          go_wp2
                          go_roundw
                          case rel => first | exact ⟨t5 + 1, by omega, by go_num, Lib.hid ⟨_, HD7.out, hcB7.out⟩⟩ | ((repeat apply Exists.intro); exact ⟨⟨t5 + 1, by omega, by go_num, Lib.hid ⟨_, HD7.out, hcB7.out⟩⟩, rfl⟩)
                          case measure => simp [intOf]; omega
                        · obtain rfl : k = t5 := by omega
                          obtain ⟨we, rfl⟩ : ∃ wo : World, wo = wr := ⟨_, rfl⟩
                          have HD8 := Lib.hid (And.intro hZ5 hcB)
                          clear hst hZ5 hcB HD6 HCB
                          have hI := Ints.arr (n := we.heap.size) HD8.out.1.p2.2.2 (Nat.le_refl _)
                          rw [HI.out.1.1] at hI
                          have qr := zl_re_ok HD8.out.1.z (by omega) 1 _ bk hI (fun bl o n c e => by injection e with e _ _; injection e with e; injection e with e _ _; subst e; rw [HD8.out.2]; decide) ⟨by decide, by
                            show permOk bk (reL (List.range k) pl).length = true
                            rw [reL_len, HI.out.2.2.1]; exact HI.out.2.2.2.2⟩
                          have QR := Lib.hid qr
                          clear hI qr
                          go_wp2_with fail
                          refine QR.out.mono ?_
                          rintro e w12 ⟨rfl, hN⟩
                          have hD9 := HD8.out.1.zln hN
                          have hL9 : ([[], reL (List.range k) pl, []] : List (List Nat)).set (Int.toNat 1) (reL (zget [[], reL (List.range k) pl, []] 1) bk) = [[], List.range k, []] := by
                            show [[], reL (reL (List.range k) pl) bk, []] = _
                            rw [HI.out.1.back HI.out.2.1 HI.out.2.2.1]
                          rw [hL9] at hD9
                          have HD9 := Lib.hid hD9
                          clear hN QR hD9 hL9
                          go_wp2_with fail
                          refine (zl_list HD9.out.z 1).mono ?_
                          rintro e w13 ⟨r9, rfl, hr, hb⟩
                          rw [show zget [[], List.range k, []] 1 = List.range k from rfl] at hr
                          have HD10 := Lib.hid (HD9.out.below hb)
                          have HRR := Lib.hid hr
                          clear hb hr
                          go_wp2_with fail
                          refine (zalike_any _ _ _ (ints (List.range k)) (ints (List.range k)) _ (HRR.out.ints (Nat.le_refl _)) (IRow.ints HD10.out.p2.1 (Nat.le_refl _)) (by rw [ints_length, List.length_range]; omega)).mono ?_
                          rw [alk_same]
                          rintro e w14 ⟨rfl, hb⟩
                          have HB := Lib.hid (HD10.out.below hb).bel
                          clear hb HRR
                          go_wp2_with fail
                          refine (zworks_any _).mono ?_
                          rintro e w15 ⟨rfl, hc⟩
                          have HC9 := Lib.hid hc
                          clear hc
                          go_wp2
                          go_ret
                          exact ⟨rfl, fb_call HB.out HC9.out⟩
              · have hltk : t ≤ k := htk
                obtain ⟨wc, rfl⟩ : ∃ wo : World, wo = wr := ⟨_, rfl⟩
                have HT4 := Lib.hid (And.intro hTp.out (And.intro hpl.out (And.intro hO.out (And.intro hP (HD.out.bel.trans (hO.out.2.mono HD.out.bel.size))))))
                clear hTp hpl hP hO
                go_wp2
                go_loopw [16] (fun x wr => ∃ (t : Nat) (bk : List Int), t ≤ k ∧ x = .int .i64 t ∧ Hid (Inv pl bk k t) ∧ Arr wr B 3 (bk.map (Value.int .i64)) ∧ Arr wr P 3 (pl.map (Value.int .i64)) ∧ Hid (Below wq.heap.size wq wr)) (fun x _ => k - (intOf x).toNat)
                case atStart => exact ⟨0, List.replicate k 0, Nat.zero_le _, rfl, ⟨by simp, fun j hj => by omega⟩, HT4.out.2.2.1.1, HT4.out.2.2.2.1, HT4.out.2.2.1.2⟩
                case round =>
                  obtain ⟨u, bk, hu, rfl, hinv, hB4, hP4, hb4⟩ := hrel
                  by_cases hlu : u < k
                  · have hr := HT4.out.1.1 u (by rw [HT4.out.2.1]; exact hlu)
                    have hcp := hP4.int (j := u) (by rw [HT4.out.2.1]; exact hlu)
                    have hput := hinv.out.put HT4.out.1 HT4.out.2.1 hlu
                    obtain ⟨z, hz⟩ := Int.eq_ofNat_of_zero_le hr.1
                    rw [hz] at hcp hput
                    rw [Int.toNat_natCast] at hput
                    have hzk : z < k := by have := hr.2; rw [HT4.out.2.1] at this; omega
                    have hcb := hB4.int (j := z) (by rw [hinv.out.1]; exact hzk)
                    have hfb := hB4.frozen z
                    have HS := Lib.hid (And.intro (hB4.setInt z (u : Int)) (And.intro (hP4.set_other ⟨B, z, none⟩ (.int .i64 u) hPB) (And.intro (hb4.out.setCell hBs (p := ⟨B, z, none⟩) (.int .i64 u)) hput)))
                    have u0 : (0 : Int) ≤ u := by omega
                    have u1 : (u : Int) < k := by omega
                    have z0 : (0 : Int) ≤ z := by omega
                    have z1 : (z : Int) < k := by omega
                    clear hr hz hput hB4 hP4 hinv hb4
                    go_wp2
                    go_roundw
                    case rel => first | exact ⟨u + 1, bk.set z u, by omega, by go_num, HS.out.2.2.2, HS.out.1, HS.out.2.1, HS.out.2.2.1⟩ | ((repeat apply Exists.intro); exact ⟨⟨u + 1, bk.set z u, by omega, by go_num, HS.out.2.2.2, HS.out.1, HS.out.2.1, HS.out.2.2.1⟩, rfl⟩)
                    case measure => simp [intOf]; omega
                  · obtain rfl : k = u := by omega
                    obtain ⟨wd, rfl⟩ : ∃ wo : World, wo = wr := ⟨_, rfl⟩
                    obtain ⟨cl, hcl, hcP, hcB⟩ : ∃ cl, ZE w wd cl b ⟨0, 3, 30⟩ (1 + 1000 * k + 1000 + 1000) q [[], List.range k, []] (fun W => (IRow W wa.heap.size (.slice hx k hcap) (ints (List.range k))) ∧ Arr W P 3 (pl.map (Value.int .i64)) ∧ Arr W B 3 (bk.map (Value.int .i64))) yes ∧ cl P = 2 ∧ cl B = 2 :=
                      ⟨_, HD.out.new2 hb4.out ((HD.out.2.1.made 2 hb4.out).and ((Res.arr hP4 (recol_ge hPs)).and (Res.arr hB4 (recol_ge hBs)))), recol_ge hPs, recol_ge hBs⟩
                    have HD5 := Lib.hid hcl
                    have HC := Lib.hid (And.intro hcP hcB)
                    clear hcl hcP hcB
                    have HI := Lib.hid (And.intro hinv.out (And.intro HT4.out.1 (And.intro HT4.out.2.1 (And.intro (tot_perm HT4.out.1 HT4.out.2.1) (tot_perm (hinv.out.tot HT4.out.1 HT4.out.2.1) hinv.out.1)))))
                    clear hB4 hP4 hinv hb4 HT4
                    have hI := Ints.arr (n := wd.heap.size) HD5.out.p2.2.1 (Nat.le_refl _)
                    rw [HI.out.2.2.1] at hI
                    have QR := Lib.hid (zl_re_ok HD5.out.z (by omega) 1 _ pl hI (fun bl o n c e => by injection e with e _ _; injection e with e; injection e with e _ _; subst e; rw [HC.out.1]; decide) ⟨by decide, by
                      show permOk pl (List.range k).length = true
                      rw [List.length_range]; exact HI.out.2.2.2.1⟩)
                    clear hI
                    go_wp2_with fail
                    refine QR.out.mono ?_
                    rintro e w10 ⟨rfl, hN⟩
                    have HD6 := Lib.hid (show ZE w w10 _ b ⟨0, 3, 30⟩ (1 + 1000 * k + 1000 + 1000 + 1000) q [[], reL (List.range k) pl, []] _ yes from HD5.out.zln hN)
                    have HCB := Lib.hid (show recol wd.heap.size cl 1 B = 2 by rw [recol_lt HD5.out.p2.2.2.lt]; exact HC.out.2)
                    clear hN QR
                    go_wp2
                    go_loopw [17] (fun x wr => ∃ t : Nat, t ≤ k ∧ x = .int .i64 t ∧ Hid (∃ col', ZE w wr col' b ⟨0, 3, 30⟩ (1 + 1000 * k + 1000 + 1000 + 1000) q [[], reL (List.range k) pl, []] (fun W => (IRow W wa.heap.size (.slice hx k hcap) (ints (List.range k))) ∧ Arr W P 3 (pl.map (Value.int .i64)) ∧ Arr W B 3 (bk.map (Value.int .i64))) yes ∧ col' B = 2)) (fun x _ => k - (intOf x).toNat)
                    case atStart => exact ⟨0, Nat.zero_le _, rfl, Lib.hid ⟨_, HD6.out, HCB.out⟩⟩
                    case round =>
                      obtain ⟨t5, ht5, rfl, hst⟩ := hrel
                      obtain ⟨col', hZ5, hcB⟩ := hst.out
                      by_cases hlt5 : t5 < k
                      · have hr := HI.out.2.1.1 t5 (by rw [HI.out.2.2.1]; exact hlt5)
                        have hrv := reL_get (List.range k) pl (j := t5) (by rw [HI.out.2.2.1]; exact hlt5)
                        obtain ⟨z, hz⟩ := Int.eq_ofNat_of_zero_le hr.1
                        have hzk : z < k := by have := hr.2; rw [HI.out.2.2.1] at this; omega
                        rw [hz, Int.toNat_natCast, show (List.range k).getD z 0 = z by simp [List.getD_eq_getElem?_getD, hzk]] at hrv
                        have qa := zl_at hZ5.z 1 (t5 : Int)
                        have hzat : zat [[], reL (List.range k) pl, []] 1 (t5 : Int) = ((z : Int), 0) := by
                          unfold zat
                          rw [show zget [[], reL (List.range k) pl, []] 1 = reL (List.range k) pl from rfl, reL_len, HI.out.2.2.1, if_pos (by omega), Int.toNat_natCast, hrv]
                        rw [hzat] at qa
                        have QA := Lib.hid qa
                        have hz5 := Lib.hid (And.intro hZ5 (And.intro hcB hz))
                        obtain ⟨G, cG, hG, _⟩ := IRow.formc hZ5.p2.1 (by rw [ints_length, List.length_range]; omega)
                        injection hG with hG1 hG2 hG3
                        subst hG1 hG3
                        have z0 : (0 : Int) ≤ z := by omega
                        have z1 : (z : Int) < k := by omega
                        have t50 : (0 : Int) ≤ t5 := by omega
                        have t51 : (t5 : Int) < k := by omega
                        clear hst hZ5 hcB qa hzat hr hrv hz hG2
                        go_upto_region 33 with (go_at_call 64; refine QA.out.mono ?_; rintro e w11 ⟨rfl, hb⟩)
                        have HD7 := Lib.hid (hz5.out.1.below hb)
                        have hcB7 := Lib.hid (show recol wr.heap.size col' 9 B = 2 by rw [recol_lt hz5.out.1.p2.2.2.lt]; exact hz5.out.2.1)
                        have cP : w11.cell? ⟨P, t5, none⟩ = some (.int .i64 z) := by rw [← hz5.out.2.2]; exact HD7.out.p2.2.1.int (by rw [HI.out.2.2.1]; exact hlt5)
                        have cG : w11.cell? ⟨G, z, none⟩ = some (.int .i64 z) := by
                          have := IRow.cell HD7.out.p2.1 (j := z) (by rw [ints_length, List.length_range]; exact hzk)
                          rw [this, ints_get, show (List.range k).getD z 0 = z by simp [List.getD_eq_getElem?_getD, hzk]]
                        clear hb QA
                        go_wp2
                        go_roundw
                        case rel => first | exact ⟨t5 + 1, by omega, by go_num, Lib.hid ⟨_, HD7.out, hcB7.out⟩⟩ | ((repeat apply Exists.intro); exact ⟨⟨t5 + 1, by omega, by go_num, Lib.hid ⟨_, HD7.out, hcB7.out⟩⟩, rfl⟩)
                        case measure => simp [intOf]; omega
                      · obtain rfl : k = t5 := by omega
                        obtain ⟨we, rfl⟩ : ∃ wo : World, wo = wr := ⟨_, rfl⟩
                        have HD8 := Lib.hid (And.intro hZ5 hcB)
                        clear hst hZ5 hcB HD6 HCB
                        have hI := Ints.arr (n := we.heap.size) HD8.out.1.p2.2.2 (Nat.le_refl _)
                        rw [HI.out.1.1] at hI
                        have qr := zl_re_ok HD8.out.1.z (by omega) 1 _ bk hI (fun bl o n c e => by injection e with e _ _; injection e with e; injection e with e _ _; subst e; rw [HD8.out.2]; decide) ⟨by decide, by
                          show permOk bk (reL (List.range k) pl).length = true
                          rw [reL_len, HI.out.2.2.1]; exact HI.out.2.2.2.2⟩
                        have QR := Lib.hid qr
                        clear hI qr
                        go_wp2_with fail
                        refine QR.out.mono ?_
                        rintro e w12 ⟨rfl, hN⟩
                        have hD9 := HD8.out.1.zln hN
                        have hL9 : ([[], reL (List.range k) pl, []] : List (List Nat)).set (Int.toNat 1) (reL (zget [[], reL (List.range k) pl, []] 1) bk) = [[], List.range k, []] := by
                          show [[], reL (reL (List.range k) pl) bk, []] = _
                          rw [HI.out.1.back HI.out.2.1 HI.out.2.2.1]
                        rw [hL9] at hD9
                        have HD9 := Lib.hid hD9
                        clear hN QR hD9 hL9
                        go_wp2_with fail
                        refine (zl_list HD9.out.z 1).mono ?_
                        rintro e w13 ⟨r9, rfl, hr, hb⟩
                        rw [show zget [[], List.range k, []] 1 = List.range k from rfl] at hr
                        have HD10 := Lib.hid (HD9.out.below hb)
                        have HRR := Lib.hid hr
                        clear hb hr
                        go_wp2_with fail
                        refine (zalike_any _ _ _ (ints (List.range k)) (ints (List.range k)) _ (HRR.out.ints (Nat.le_refl _)) (IRow.ints HD10.out.p2.1 (Nat.le_refl _)) (by rw [ints_length, List.length_range]; omega)).mono ?_
                        rw [alk_same]
                        rintro e w14 ⟨rfl, hb⟩
                        have HB := Lib.hid (HD10.out.below hb).bel
                        clear hb HRR
                        go_wp2_with fail
                        refine (zworks_any _).mono ?_
                        rintro e w15 ⟨rfl, hc⟩
                        have HC9 := Lib.hid hc
                        clear hc
                        go_wp2
                        go_ret
                        exact ⟨rfl, fb_call HB.out HC9.out⟩
end Go.Proofs.Ytfkkkndigkchcaa
