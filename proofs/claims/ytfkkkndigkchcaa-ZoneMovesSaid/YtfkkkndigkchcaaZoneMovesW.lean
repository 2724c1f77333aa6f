/- The walk of ZoneMoves. No condition. -/
import Derived.Test.YtfkkkndigkchcaaZoneJ
import Derived.Test.YtfkkkndigkchcaaOpenA
namespace Go.Proofs.Ytfkkkndigkchcaa
open Go.ChangeShapes Go.WideShapes Go.ChangeAt Go.RowKit
attribute [local irreducible] Calls

/-- Ten slots in three lists. -/
structure Ten (L : List (List Nat)) : Prop where
  len : L.length = 3
  sum : (L.getD 0 []).length + (L.getD 1 []).length + (L.getD 2 []).length = 10
  all : ∀ s, s < 10 → ∃ z, s ∈ L.getD z []
theorem three {z : Nat} (h : z < 3) : z = 0 ∨ z = 1 ∨ z = 2 := by omega
theorem Ten.move {L : List (List Nat)} (h : Ten L) {z j t i : Nat} (hz : z < 3) (hj : j < (L.getD z []).length) (ht : t < 3) (hi : i ≤ ((L.set z (takeL (L.getD z []) j)).getD t []).length) :
    Ten ((L.set z (takeL (L.getD z []) j)).set t (putL ((L.set z (takeL (L.getD z []) j)).getD t []) i ((L.getD z []).getD j 0))) := by
  obtain ⟨L1, hL1⟩ : ∃ L1, L.set z (takeL (L.getD z []) j) = L1 := ⟨_, rfl⟩
  rw [hL1] at hi ⊢
  have hzl : z < L.length := by rw [h.len]; exact hz
  have g1 : ∀ x, L1.getD x [] = if x = z then takeL (L.getD z []) j else L.getD x [] := fun x => by rw [← hL1]; exact getD_setL _ _ _ _ hzl
  have hl1 : L1.length = 3 := by rw [← hL1, List.length_set]; exact h.len
  have htl : t < L1.length := by omega
  have g2 : ∀ x, (L1.set t (putL (L1.getD t []) i ((L.getD z []).getD j 0))).getD x [] = if x = t then putL (L1.getD t []) i ((L.getD z []).getD j 0) else L1.getD x [] := fun x => getD_setL _ _ _ _ htl
  have hsum := h.sum
  have c1 : ∀ x, (L1.getD x []).length = if x = z then (L.getD z []).length - 1 else (L.getD x []).length := fun x => by
    rw [g1]; split
    · exact takeL_len hj
    · rfl
  have c2 : ∀ x, ((L1.set t (putL (L1.getD t []) i ((L.getD z []).getD j 0))).getD x []).length = if x = t then (L1.getD t []).length + 1 else (L1.getD x []).length := fun x => by
    rw [g2]; split
    · exact putL_len hi
    · rfl
  refine ⟨by rw [List.length_set]; exact hl1, ?_, fun s hs => ?_⟩
  · rw [c2, c2, c2]
    rcases three hz with rfl | rfl | rfl <;> rcases three ht with rfl | rfl | rfl <;> simp [c1, -List.getD_eq_getElem?_getD] <;> omega
  · obtain ⟨x, hx⟩ := h.all s hs
    have key : s = (L.getD z []).getD j 0 ∨ ∃ y, s ∈ L1.getD y [] := by
      by_cases e : x = z
      · subst e
        rcases takeL_mem hj hx with h1 | h1
        · exact .inl h1
        · exact .inr ⟨x, by rw [g1, if_pos rfl]; exact h1⟩
      · exact .inr ⟨x, by rw [g1, if_neg e]; exact hx⟩
    rcases key with e | ⟨y, hy⟩
    · exact ⟨t, by rw [g2, if_pos rfl]; exact putL_mem.2 (.inl e)⟩
    · by_cases e : y = t
      · exact ⟨t, by rw [g2, if_pos rfl]; exact putL_mem.2 (.inr (e ▸ hy))⟩
      · exact ⟨y, by rw [g2, if_neg e]; exact hy⟩
theorem IRow.formc {w : World} {base : Nat} {v : Value} {l : List Int} (h : IRow w base v l) (hn : 0 < l.length) : ∃ g cap, v = .slice (some ⟨g, 0, none⟩) l.length cap ∧ l.length ≤ cap := by
  rcases h.2 with ⟨_, h0⟩ | ⟨g, cap, _, hv, _, _, hc, _⟩
  · omega
  · exact ⟨g, cap, hv, hc⟩
theorem ten_start : Ten [List.range 10, [], []] := ⟨rfl, rfl, fun _ hs => ⟨0, List.mem_range.2 hs⟩⟩
theorem range_put (i : Nat) : putL (List.range i) (List.range i).length i = List.range (i + 1) := by
  unfold putL
  rw [List.take_length, List.drop_length, List.range_succ]
theorem zno_range (i n : Nat) (h : i ≤ n) : zno [List.range i, [], []] (n : Int) := by
  intro z t ht
  match z with
  | 0 => have := List.mem_range.1 (show t ∈ List.range i from ht); omega
  | 1 => cases ht
  | 2 => cases ht
  | z + 3 => cases ht

set_option maxRecDepth 100000 in
set_option maxHeartbeats 4000000 in
theorem zoneMoves_walk (a : Option Addr) (len cap : Nat) (F : Nat → Nat → Int) (w : World) (hR : Rws w w.heap.size .u8 2 (.slice a len cap) len F) (hl : (len : Int) ≤ 9223372036854775807) :
    Calls Try.prog 8 #[.slice a len cap] w fun e w' => e = .returned (.bool true) ∧ Below w.heap.size w w' := by
  have HR := Lib.hid hR
  clear hR
  go_enter Try.func8, Try.ntmps8
  go_wp2_with fail
  refine (tr_new w).mono ?_
  rintro e w0 ⟨rfl, hT0⟩
  obtain ⟨T, hT⟩ : ∃ T, w.heap.size = T := ⟨_, rfl⟩
  have HT := Lib.hid (hT0 w (Below.refl _ _)).1
  rw [hT] at HT ⊢
  clear hT0 hT
  go_wp2_with fail
  refine (zl_new (col := fun _ => 1) (c := 1) HT.out (fun _ _ => rfl) 3 10 (by decide) (by decide) (by decide) (by decide)).mono ?_
  rintro e w1 ⟨b, q, rfl, hbT, hN⟩
  have HD := Lib.hid (show ZL w w1 _ 1 b ⟨0, 3, 10⟩ 1 q [[], [], []] from hN.st)
  clear hN HT hbT
  go_wp2
  go_loopw [4] (fun x wr => ∃ i : Nat, i ≤ 10 ∧ x = .int .i64 i ∧ Hid (∃ col, ZL w wr col 1 b ⟨0, 3, 10⟩ (1 + 1000 * i) q [List.range i, [], []])) (fun x _ => 10 - (intOf x).toNat)
  case atStart => exact ⟨0, by omega, rfl, Lib.hid ⟨_, HD.out⟩⟩
  case round =>
    obtain ⟨i, hi, rfl, hst⟩ := hrel
    obtain ⟨col, hZ⟩ := hst.out
    by_cases hlt : i < 10
    · have qp := Lib.hid (zl_put_end hZ (by omega) 0 i (by decide) (by omega) (zno_range i i (Nat.le_refl _)))
      have hi0 : (i : Int) < 10 := by omega
      clear hst hZ
      go_wp2_with (go_at_call 37; refine qp.out.mono ?_; rintro e w2 ⟨rfl, hN⟩)
      go_roundw
      case rel => exact ⟨i + 1, by omega, by go_num, Lib.hid ⟨_, by have := hN.st.mono (n := 1 + 1000 * (i + 1)) (by omega); rw [← range_put]; exact this⟩⟩
      case measure => simp [intOf]; omega
    · obtain rfl : i = 10 := by omega
      have HZ := Lib.hid (ZE.of hZ)
      clear hst hZ HD hlt
      go_wp2
      go_loopw [5] (fun x wr => ∃ i : Nat, i ≤ len ∧ i ≤ 60 ∧ x = .int .i64 i ∧ Hid (∃ col L, ZE w wr col b ⟨0, 3, 10⟩ (10001 + 2000 * i) q L yes yes ∧ Ten L)) (fun x _ => len - (intOf x).toNat)
      case atStart => exact ⟨0, Nat.zero_le _, by omega, rfl, Lib.hid ⟨_, _, HZ.out, ten_start⟩⟩
      case round =>
        obtain ⟨i, hil, hi60, rfl, hst⟩ := hrel
        by_cases hlt : i < len
        · by_cases h60 : i < 60
          · obtain ⟨a', c', e, _, _, hcells⟩ := HR.out
            injection e with e1 e2 e3
            subst e1 e3
            obtain ⟨B, o, rfl, hb, hcells⟩ := hcells.resolve_left (by omega)
            obtain ⟨col, L, hZ, hT⟩ := hst.out
            have hbw : Below w.heap.size w wr := hZ.bel
            have hx := hcells i hlt 0 (by omega)
            have hy := hcells i hlt 1 (by omega)
            obtain ⟨x, hxx⟩ : ∃ x, F i 0 = x := ⟨_, rfl⟩
            obtain ⟨y, hyy⟩ : ∃ y, F i 1 = y := ⟨_, rfl⟩
            rw [hxx] at hx
            rw [hyy] at hy
            have bx := u8_bd hx.2
            have by_ := u8_bd hy.2
            have cx : wr.cell? ⟨B, o + i * 2, none⟩ = some (.int .u8 x) := (hbw.cell (p := ⟨B, o + i * 2, none⟩) hb).trans hx.1
            have cy : wr.cell? ⟨B, o + i * 2 + 1, none⟩ = some (.int .u8 y) := (hbw.cell (p := ⟨B, o + i * 2 + 1, none⟩) hb).trans hy.1
            have HY := Lib.hid (show ∀ W : World, Below w.heap.size w W → W.cell? ⟨B, o + i * 2 + 1, none⟩ = some (.int .u8 y) from fun W hW => (hW.cell (p := ⟨B, o + i * 2 + 1, none⟩) hb).trans hy.1)
            obtain ⟨s, hsx⟩ : ∃ s : Nat, x % 10 = (s : Int) := ⟨(x % 10).toNat, by omega⟩
            obtain ⟨t, htx⟩ : ∃ t : Nat, y % 3 = (t : Int) := ⟨(y % 3).toNat, by omega⟩
            have hs10 : s < 10 := by omega
            have ht3 : t < 3 := by omega
            have x0 := bx.1
            have x1 := bx.2
            have y0 := by_.1
            have y1 := by_.2
            obtain ⟨z, j, hj, hs⟩ := hZ.z.at (hT.all s hs10)
            have hz3 : z < 3 := hZ.z.out (getD_mem' hj)
            obtain ⟨l, hlz⟩ : ∃ l, L.getD z [] = l := ⟨_, rfl⟩
            obtain ⟨n, hln⟩ : ∃ n, l.length = n := ⟨_, rfl⟩
            have hjn : j < n := by rw [← hln, ← hlz]; exact hj
            have hn10 : n ≤ 10 := by rw [← hln, ← hlz]; exact hZ.z.le z
            have HJ := Lib.hid (And.intro hj (And.intro hs (And.intro hlz (And.intro hln hT))))
            have HZ2 := Lib.hid hZ
            clear hx hy bx by_ hxx hyy hcells hbw hb hst hj hs hlz hln hZ hT
            have hi0 : (0 : Int) ≤ i := by omega
            have hi1 : (i : Int) < len := by omega
            have hi2 : (i : Int) < 60 := by omega
            go_wp2
            go_quiet (fail)
            obtain ⟨wq, hwq⟩ : ∃ wq, wr.drewN nq = wq := ⟨_, rfl⟩
            have HD := Lib.hid (show ZE w wq _ b ⟨0, 3, 10⟩ (10001 + 2000 * i) q L yes yes by rw [← hwq]; exact HZ2.out.below (bel_drewN (Below.refl _ _) nq))
            rw [hwq]
            clear hwq cx cy HZ2 HZ
            have qw := zl_where_yes HD.out.z z j HJ.out.1
            rw [HJ.out.2.1] at qw
            have QW := Lib.hid qw
            clear qw
            go_wp2_with fail
            refine QW.out.mono ?_
            rintro e w2 ⟨rfl, hb⟩
            have HD := Lib.hid (HD.out.below hb)
            clear hb QW
            go_wp2_with fail
            refine (zl_list HD.out.z (z : Int)).mono ?_
            rintro e w3 ⟨r, rfl, hr, hb⟩
            rw [zget_nat, HJ.out.2.2.1] at hr
            obtain ⟨G, cap2, rfl, hcap⟩ := hr.formc (by rw [ints_length, HJ.out.2.2.2.1]; omega)
            rw [ints_length, HJ.out.2.2.2.1] at hr hcap ⊢
            have HD := Lib.hid (HD.out.new2 hb (Res.newRow hr (Nat.le_refl _)))
            clear hb hr
            have qt := zl_take HD.out.z (by omega) z j HJ.out.1
            rw [HJ.out.2.1, HJ.out.2.2.1] at qt
            have QT := Lib.hid qt
            have ht0 := HD.out.z.took (z := z) (j := j) HJ.out.1
            rw [HJ.out.2.1, HJ.out.2.2.1] at ht0
            have HT0 := Lib.hid ht0
            clear qt ht0
            have j0 : (0 : Int) ≤ j := by omega
            have j1 : (j : Int) < n := by omega
            have j2 : decide ((n : Int) ≤ j) = false := by simp; omega
            go_wp2_with fail
            refine QT.out.mono ?_
            rintro e w4 ⟨rfl, hN⟩
            have HD := Lib.hid (HD.out.zln hN)
            clear hN QT
            have j3 : (j : Int) ≤ cap2 := by omega
            have H5 := Lib.hid (show SInts w4 (some ⟨G, 0, none⟩) n (ints l) from SInts.own HD.out.p2)
            go_upto_region 21 with (at_builtin; refine wpList_append_ints rfl _ _ rfl rfl (IRow.nil w4 w4.heap.size) rfl (H5.out.take (k := j) (by omega)) (by simp; omega) (Nat.le_refl _) ?_; intro v5 w5 hr5 hg5 hf5)
            have hb5 : Below w4.heap.size w4 w5 := (Below.refl _ w4).grown hg5 (Nat.le_refl _) (fun k e => by cases e)
            rw [List.nil_append] at hr5
            have hlen5 : (List.take j (ints l)).length ≤ 10 := by rw [List.length_take]; omega
            obtain ⟨l5, hl5⟩ : ∃ l5, List.take j (ints l) = l5 := ⟨_, rfl⟩
            rw [hl5] at hr5 hlen5
            have HL5 := Lib.hid hl5
            clear hl5
            obtain ⟨x5, c5, rfl⟩ := hr5.any
            have HD4 := HD
            have HD := Lib.hid (HD.out.below hb5)
            have HR5 := Lib.hid (And.intro hr5 hb5)
            clear hg5 hf5 hb5 hr5 H5
            have H5 := Lib.hid (show SInts w5 (some ⟨G, 0, none⟩) n (ints l) from SInts.own HD.out.p2)
            have hlast2 : (j : Int) + 1 ≤ cap2 := by omega
            have H6 := Lib.hid (show SInts w5 (if cap2 = j + 1 then some ⟨G, 0, none⟩ else some ⟨G, j + 1, none⟩) (n - (j + 1)) ((ints l).drop (j + 1)) by
              split
              · have hz : n - (j + 1) = 0 := by omega
                have hd : (ints l).drop (j + 1) = [] := List.drop_of_length_le (by rw [← H5.out.1]; omega)
                rw [hz, hd]; exact SInts.nil _ _
              · have := H5.out.drop (k := j + 1); rw [Nat.zero_add] at this; exact this)
            go_upto_region 22 with (at_builtin; refine wpList_append_ints rfl (.tmp 80) (.tmp 84) rfl rfl HR5.out.1 rfl H6.out (by rw [List.length_drop, ← H5.out.1]; omega) (by have := HR5.out.2.size; omega) ?_; intro v6 w6 hr6 hg6 hf6)
            generalize (if cap2 = j + 1 then _ else _) = ad
            have hb6 : Below w4.heap.size w4 w6 := HR5.out.2.grown hg6 HR5.out.2.size (fun k e => (World.ownsRow.lt HR5.out.1 k e).1)
            rw [← HL5.out, ← ints_take] at hr6
            have HD := Lib.hid (HD4.out.below hb6)
            have HR6 := Lib.hid hr6
            have hzl : z < L.length := by rw [HJ.out.2.2.2.2.len]; exact hz3
            have hLz : (L.set z (takeL l j)).getD z [] = takeL l j := by rw [getD_setL _ _ _ _ hzl, if_pos rfl]
            have HLz := Lib.hid hLz
            clear hg6 hf6 hb6 hr6 H6 H5 HD4 HR5 HL5 hlast2 hlen5 hLz
            go_wp2_with fail
            refine (zl_list HD.out.z (z : Int)).mono ?_
            rintro e w7 ⟨r7, rfl, hr, hb⟩
            rw [zget_nat, HLz.out] at hr
            have HD := Lib.hid (HD.out.below hb)
            have HR7 := Lib.hid (And.intro hr (HR6.out.below hb))
            clear hr hb HR6
            go_wp2_with fail
            refine (zalike_any _ _ _ (ints (takeL l j)) (ints (takeL l j)) _ (HR7.out.1.ints (Nat.le_refl _)) (HR7.out.2.ints (Nat.le_refl _)) (by rw [ints_length, takeL_len (by rw [HJ.out.2.2.2.1]; exact hjn), HJ.out.2.2.2.1]; omega)).mono ?_
            rw [alk_same]
            rintro e w8 ⟨rfl, hb⟩
            have HD := Lib.hid (HD.out.below hb)
            clear hb HR7
            have cy : w8.cell? ⟨B, o + i * 2 + 1, none⟩ = some (.int .u8 y) := HY.out w8 HD.out.bel
            have HN1 := Lib.hid HT0.out
            obtain ⟨L1, hL1⟩ : ∃ L1, L.set z (takeL l j) = L1 := ⟨_, rfl⟩
            rw [hL1] at HD HN1
            have HL1 := Lib.hid hL1
            have hl13 : t < L1.length := by rw [← hL1, List.length_set, HJ.out.2.2.2.2.len]; exact ht3
            clear hL1 HLz hzl
            by_cases h128 : 128 ≤ y
            · skip
              go_wp2_with fail
              refine (zl_put HD.out.z (by omega) t s 0 ht3 hs10 HN1.out (Nat.zero_le _)).mono ?_
              rintro e w9 ⟨rfl, hN⟩
              have HD := Lib.hid (HD.out.zln hN)
              have hg2 : ∀ x, (L1.set t (putL (L1.getD t []) 0 s)).getD x [] = if x = t then putL (L1.getD t []) 0 s else L1.getD x [] := fun x => getD_setL _ _ _ _ hl13
              have hT2 := HJ.out.2.2.2.2.move (t := t) (i := 0) hz3 HJ.out.1 ht3 (Nat.zero_le _)
              rw [HJ.out.2.1, HJ.out.2.2.1, HL1.out] at hT2
              obtain ⟨kk, hkk⟩ : ∃ kk, (L1.getD t []).length = kk := ⟨_, rfl⟩
              skip
              have hlt2 : ((L1.set t (putL (L1.getD t []) 0 s)).getD t []).length = kk + 1 := by rw [hg2, if_pos rfl, putL_len (by omega), hkk]
              have hat2 : ((L1.set t (putL (L1.getD t []) 0 s)).getD t []).getD 0 0 = s := by rw [hg2, if_pos rfl, putL_get (by omega), if_neg (by omega), if_pos rfl]
              obtain ⟨L2, hL2⟩ : ∃ L2, L1.set t (putL (L1.getD t []) 0 s) = L2 := ⟨_, rfl⟩
              rw [hL2] at HD hT2 hlt2 hat2
              have hkb : kk ≤ 10 := by have := HD.out.z.le t; rw [hlt2] at this; have : kk + 1 ≤ 10 := this; omega
              have HT2 := Lib.hid hT2
              have HL2 := Lib.hid hlt2
              have qw := zl_where_yes HD.out.z t 0 (by rw [hlt2]; omega)
              rw [hat2] at qw
              have QW := Lib.hid qw
              clear hN hg2 hT2 hkk hL2 hlt2 hat2 qw HL1 HN1 cy
              go_wp2_with fail
              refine QW.out.mono ?_
              rintro e w10 ⟨rfl, hb⟩
              have HD := Lib.hid (HD.out.below hb)
              clear hb QW
              have ql := zl_len HD.out.z (t : Int)
              rw [zget_nat, HL2.out] at ql
              have QL := Lib.hid ql
              clear ql
              by_cases hk0 : kk = 0
              · subst hk0
                have hk1 : ((0 + 1 : Nat) : Int) = ((0 : Nat) : Int) + 1 := by omega
                go_wp2_with fail
                refine QL.out.mono ?_
                rw [hk1]
                rintro e w11 ⟨rfl, hb⟩
                have HD := Lib.hid (HD.out.below hb)
                clear hb QL
                obtain ⟨n0, h0⟩ : ∃ n0, (L2.getD 0 []).length = n0 := ⟨_, rfl⟩
                obtain ⟨n1, h1⟩ : ∃ n1, (L2.getD 1 []).length = n1 := ⟨_, rfl⟩
                obtain ⟨n2, h2⟩ : ∃ n2, (L2.getD 2 []).length = n2 := ⟨_, rfl⟩
                have hsum : n0 + n1 + n2 = 10 := by have := HT2.out.sum; rw [h0, h1, h2] at this; exact this
                have hsumI : (n0 : Int) + n1 + n2 = 10 := by omega
                have H012 := Lib.hid (And.intro h0 (And.intro h1 h2))
                clear h0 h1 h2
                go_wp2_with fail
                refine (zl_len HD.out.z 0).mono ?_
                rw [show (zget L2 0).length = n0 from H012.out.1]
                rintro e w12 ⟨rfl, hb⟩
                have HD := Lib.hid (HD.out.below hb)
                clear hb
                go_wp2_with fail
                refine (zl_len HD.out.z 1).mono ?_
                rw [show (zget L2 1).length = n1 from H012.out.2.1]
                rintro e w13 ⟨rfl, hb⟩
                have HD := Lib.hid (HD.out.below hb)
                clear hb
                go_wp2_with fail
                refine (zl_len HD.out.z 2).mono ?_
                rw [show (zget L2 2).length = n2 from H012.out.2.2]
                rintro e w14 ⟨rfl, hb⟩
                have HD := Lib.hid (HD.out.below hb)
                clear hb
                go_wp2
                go_roundw
                case rel => first | exact ⟨i + 1, by omega, by omega, by go_num, Lib.hid ⟨_, L2, (HD.out.mono (by omega)).forget, HT2.out⟩⟩ | ((repeat apply Exists.intro); exact ⟨⟨i + 1, by omega, by omega, by go_num, Lib.hid ⟨_, L2, (HD.out.mono (by omega)).forget, HT2.out⟩⟩, rfl⟩)
                case measure => simp [intOf]; omega
              · have hk0' : ¬ ((0 : Int) = (kk : Int)) := by omega
                have hk1 : ((kk + 1 : Nat) : Int) = (kk : Int) + 1 := by omega
                go_wp2_with fail
                refine QL.out.mono ?_
                rw [hk1]
                rintro e w11 ⟨rfl, hb⟩
                have HD := Lib.hid (HD.out.below hb)
                clear hb QL
                obtain ⟨n0, h0⟩ : ∃ n0, (L2.getD 0 []).length = n0 := ⟨_, rfl⟩
                obtain ⟨n1, h1⟩ : ∃ n1, (L2.getD 1 []).length = n1 := ⟨_, rfl⟩
                obtain ⟨n2, h2⟩ : ∃ n2, (L2.getD 2 []).length = n2 := ⟨_, rfl⟩
                have hsum : n0 + n1 + n2 = 10 := by have := HT2.out.sum; rw [h0, h1, h2] at this; exact this
                have hsumI : (n0 : Int) + n1 + n2 = 10 := by omega
                have H012 := Lib.hid (And.intro h0 (And.intro h1 h2))
                clear h0 h1 h2
                go_wp2_with fail
                refine (zl_len HD.out.z 0).mono ?_
                rw [show (zget L2 0).length = n0 from H012.out.1]
                rintro e w12 ⟨rfl, hb⟩
                have HD := Lib.hid (HD.out.below hb)
                clear hb
                go_wp2_with fail
                refine (zl_len HD.out.z 1).mono ?_
                rw [show (zget L2 1).length = n1 from H012.out.2.1]
                rintro e w13 ⟨rfl, hb⟩
                have HD := Lib.hid (HD.out.below hb)
                clear hb
                go_wp2_with fail
                refine (zl_len HD.out.z 2).mono ?_
                rw [show (zget L2 2).length = n2 from H012.out.2.2]
                rintro e w14 ⟨rfl, hb⟩
                have HD := Lib.hid (HD.out.below hb)
                clear hb
                go_wp2
                go_roundw
                case rel => first | exact ⟨i + 1, by omega, by omega, by go_num, Lib.hid ⟨_, L2, (HD.out.mono (by omega)).forget, HT2.out⟩⟩ | ((repeat apply Exists.intro); exact ⟨⟨i + 1, by omega, by omega, by go_num, Lib.hid ⟨_, L2, (HD.out.mono (by omega)).forget, HT2.out⟩⟩, rfl⟩)
                case measure => simp [intOf]; omega
            · have h128 : y < 128 := by omega
              go_wp2_with fail
              refine (zl_put_end HD.out.z (by omega) t s ht3 hs10 HN1.out).mono ?_
              rintro e w9 ⟨rfl, hN⟩
              have HD := Lib.hid (HD.out.zln hN)
              have hg2 : ∀ x, (L1.set t (putL (L1.getD t []) (L1.getD t []).length s)).getD x [] = if x = t then putL (L1.getD t []) (L1.getD t []).length s else L1.getD x [] := fun x => getD_setL _ _ _ _ hl13
              have hT2 := HJ.out.2.2.2.2.move (t := t) hz3 HJ.out.1 ht3 (Nat.le_refl _)
              rw [HJ.out.2.1, HJ.out.2.2.1, HL1.out] at hT2
              obtain ⟨kk, hkk⟩ : ∃ kk, (L1.getD t []).length = kk := ⟨_, rfl⟩
              rw [hkk] at HD hg2 hT2
              have hlt2 : ((L1.set t (putL (L1.getD t []) kk s)).getD t []).length = kk + 1 := by rw [hg2, if_pos rfl, putL_len (by omega), hkk]
              have hat2 : ((L1.set t (putL (L1.getD t []) kk s)).getD t []).getD kk 0 = s := by rw [hg2, if_pos rfl, putL_get (by omega), if_neg (by omega), if_pos rfl]
              obtain ⟨L2, hL2⟩ : ∃ L2, L1.set t (putL (L1.getD t []) kk s) = L2 := ⟨_, rfl⟩
              rw [hL2] at HD hT2 hlt2 hat2
              have hkb : kk ≤ 10 := by have := HD.out.z.le t; rw [hlt2] at this; have : kk + 1 ≤ 10 := this; omega
              have HT2 := Lib.hid hT2
              have HL2 := Lib.hid hlt2
              have qw := zl_where_yes HD.out.z t kk (by rw [hlt2]; omega)
              rw [hat2] at qw
              have QW := Lib.hid qw
              clear hN hg2 hT2 hkk hL2 hlt2 hat2 qw HL1 HN1 cy
              go_wp2_with fail
              refine QW.out.mono ?_
              rintro e w10 ⟨rfl, hb⟩
              have HD := Lib.hid (HD.out.below hb)
              clear hb QW
              have ql := zl_len HD.out.z (t : Int)
              rw [zget_nat, HL2.out] at ql
              have QL := Lib.hid ql
              clear ql
              by_cases hk0 : kk = 0
              · subst hk0
                have hk1 : ((0 + 1 : Nat) : Int) = ((0 : Nat) : Int) + 1 := by omega
                go_wp2_with fail
                refine QL.out.mono ?_
                rw [hk1]
                rintro e w11 ⟨rfl, hb⟩
                have HD := Lib.hid (HD.out.below hb)
                clear hb QL
                obtain ⟨n0, h0⟩ : ∃ n0, (L2.getD 0 []).length = n0 := ⟨_, rfl⟩
                obtain ⟨n1, h1⟩ : ∃ n1, (L2.getD 1 []).length = n1 := ⟨_, rfl⟩
                obtain ⟨n2, h2⟩ : ∃ n2, (L2.getD 2 []).length = n2 := ⟨_, rfl⟩
                have hsum : n0 + n1 + n2 = 10 := by have := HT2.out.sum; rw [h0, h1, h2] at this; exact this
                have hsumI : (n0 : Int) + n1 + n2 = 10 := by omega
                have H012 := Lib.hid (And.intro h0 (And.intro h1 h2))
                clear h0 h1 h2
                go_wp2_with fail
                refine (zl_len HD.out.z 0).mono ?_
                rw [show (zget L2 0).length = n0 from H012.out.1]
                rintro e w12 ⟨rfl, hb⟩
                have HD := Lib.hid (HD.out.below hb)
                clear hb
                go_wp2_with fail
                refine (zl_len HD.out.z 1).mono ?_
                rw [show (zget L2 1).length = n1 from H012.out.2.1]
                rintro e w13 ⟨rfl, hb⟩
                have HD := Lib.hid (HD.out.below hb)
                clear hb
                go_wp2_with fail
                refine (zl_len HD.out.z 2).mono ?_
                rw [show (zget L2 2).length = n2 from H012.out.2.2]
                rintro e w14 ⟨rfl, hb⟩
                have HD := Lib.hid (HD.out.below hb)
                clear hb
                go_wp2
                go_roundw
                case rel => first | exact ⟨i + 1, by omega, by omega, by go_num, Lib.hid ⟨_, L2, (HD.out.mono (by omega)).forget, HT2.out⟩⟩ | ((repeat apply Exists.intro); exact ⟨⟨i + 1, by omega, by omega, by go_num, Lib.hid ⟨_, L2, (HD.out.mono (by omega)).forget, HT2.out⟩⟩, rfl⟩)
                case measure => simp [intOf]; omega
              · have hk0' : ¬ ((kk : Int) = 0) := by omega
                have hk1 : ((kk + 1 : Nat) : Int) = (kk : Int) + 1 := by omega
                go_wp2_with fail
                refine QL.out.mono ?_
                rw [hk1]
                rintro e w11 ⟨rfl, hb⟩
                have HD := Lib.hid (HD.out.below hb)
                clear hb QL
                obtain ⟨n0, h0⟩ : ∃ n0, (L2.getD 0 []).length = n0 := ⟨_, rfl⟩
                obtain ⟨n1, h1⟩ : ∃ n1, (L2.getD 1 []).length = n1 := ⟨_, rfl⟩
                obtain ⟨n2, h2⟩ : ∃ n2, (L2.getD 2 []).length = n2 := ⟨_, rfl⟩
                have hsum : n0 + n1 + n2 = 10 := by have := HT2.out.sum; rw [h0, h1, h2] at this; exact this
                have hsumI : (n0 : Int) + n1 + n2 = 10 := by omega
                have H012 := Lib.hid (And.intro h0 (And.intro h1 h2))
                clear h0 h1 h2
                go_wp2_with fail
                refine (zl_len HD.out.z 0).mono ?_
                rw [show (zget L2 0).length = n0 from H012.out.1]
                rintro e w12 ⟨rfl, hb⟩
                have HD := Lib.hid (HD.out.below hb)
                clear hb
                go_wp2_with fail
                refine (zl_len HD.out.z 1).mono ?_
                rw [show (zget L2 1).length = n1 from H012.out.2.1]
                rintro e w13 ⟨rfl, hb⟩
                have HD := Lib.hid (HD.out.below hb)
                clear hb
                go_wp2_with fail
                refine (zl_len HD.out.z 2).mono ?_
                rw [show (zget L2 2).length = n2 from H012.out.2.2]
                rintro e w14 ⟨rfl, hb⟩
                have HD := Lib.hid (HD.out.below hb)
                clear hb
                go_wp2
                go_roundw
                case rel => first | exact ⟨i + 1, by omega, by omega, by go_num, Lib.hid ⟨_, L2, (HD.out.mono (by omega)).forget, HT2.out⟩⟩ | ((repeat apply Exists.intro); exact ⟨⟨i + 1, by omega, by omega, by go_num, Lib.hid ⟨_, L2, (HD.out.mono (by omega)).forget, HT2.out⟩⟩, rfl⟩)
                case measure => simp [intOf]; omega
          · obtain rfl : i = 60 := by omega
            obtain ⟨col, L, hZ, hT⟩ := hst.out
            have HB := Lib.hid hZ.bel
            clear hst hZ hT
            go_wp2_with fail
            refine (zworks_any _).mono ?_
            rintro e wc ⟨rfl, hc⟩
            have HC := Lib.hid hc
            clear hc
            go_wp2
            go_ret
            exact ⟨rfl, fb_call HB.out HC.out⟩
        · obtain rfl : len = i := by omega
          obtain ⟨col, L, hZ, hT⟩ := hst.out
          have HB := Lib.hid hZ.bel
          clear hst hZ hT hlt
          go_wp2_with fail
          refine (zworks_any _).mono ?_
          rintro e wc ⟨rfl, hc⟩
          have HC := Lib.hid hc
          clear hc
          go_wp2
          go_ret
          exact ⟨rfl, fb_call HB.out HC.out⟩
end Go.Proofs.Ytfkkkndigkchcaa
