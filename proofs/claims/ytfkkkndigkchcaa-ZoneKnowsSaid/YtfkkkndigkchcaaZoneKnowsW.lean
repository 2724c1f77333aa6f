/- The walk of ZoneKnows. No condition. -/
import Derived.Test.YtfkkkndigkchcaaZoneS
import Derived.Test.YtfkkkndigkchcaaOpenA
namespace Go.Proofs.Ytfkkkndigkchcaa
open Go.ChangeShapes Go.WideShapes Go.ChangeAt Go.RowKit
attribute [local irreducible] Calls

def iminZ (x y : Int) : Int := if y < x then y else x
theorem iminZ_nat (x y : Nat) : iminZ x y = ((min x y : Nat) : Int) := by unfold iminZ; split <;> omega
/-- Four rows. -/
def PW (base : Nat) (V : List Value) (R : Nat → List Nat) (W : World) : Prop := ∀ j, j < 4 → IRow W base (V.getD j (.slice none 0 0)) (ints (R j))
theorem PW.nil (base : Nat) (W : World) (R : Nat → List Nat) (hR : ∀ j, j < 4 → R j = []) : PW base [.slice none 0 0, .slice none 0 0, .slice none 0 0, .slice none 0 0] R W := fun j hj => by
  rw [hR j hj]
  match j, hj with
  | 0, _ => exact IRow.nil _ _
  | 1, _ => exact IRow.nil _ _
  | 2, _ => exact IRow.nil _ _
  | 3, _ => exact IRow.nil _ _
theorem getD_setV (V : List Value) (k j : Nat) (v d : Value) (hk : k < V.length) : (V.set k v).getD j d = if j = k then v else V.getD j d := by
  rw [List.getD_eq_getElem?_getD, List.getD_eq_getElem?_getD, List.getElem?_set]
  by_cases e : j = k
  · subst e; simp [hk]
  · rw [if_neg e, if_neg (fun h => e h.symm)]
theorem PW.put {W : World} {base : Nat} {V : List Value} {R R' : Nat → List Nat} {k : Nat} {v : Value} (h : PW base V R W) (hv : IRow W base v (ints (R' k))) (hk : k < V.length) (hR : ∀ j, j ≠ k → R' j = R j) : PW base (V.set k v) R' W := fun j hj => by
  rw [getD_setV _ _ _ _ _ hk]
  by_cases e : j = k
  · subst e; rw [if_pos rfl]; exact hv
  · rw [if_neg e, hR j e]; exact h j hj
section
variable {w0 w w' : World} {col : Nat → Nat} {k n : Nat} {b : ZB} {g : ZG} {q : List Int × List (Int × Int)} {L L' : List (List Nat)} {P2 P3 P : World → Prop}
theorem ZE.set3 {S : Nat → Prop} (h : ZE w0 w col b g k q L P2 P3) (hm : Moved w w' S) (hS : ∀ j, S j → j < w.heap.size → col j = 3) (hb : ∀ j, S j → w0.heap.size ≤ j) (hP : Res w' (recol w.heap.size col 3) 3 P) : ZE w0 w' (recol w.heap.size col 3) b g k q L P2 P :=
  ⟨h.1.moved hm hS hb (by decide), h.2.1.step hm hS (by decide), hP⟩
theorem ZE.ofHist {q' : List Int × List (Int × Int)} (h : ZE w0 w col b g k q L P2 P3) (hh : Hist q' q) : ZE w0 w col b g k q' L P2 P3 := ⟨h.1.ofHist hh, h.2⟩
end
theorem cw3 {n a W : Nat} {col : Nat → Nat} (h : col W = 3) (hl : W < n) : recol n col a W = 3 := (recol_lt hl).trans h
theorem row_empty (w : World) (base : Nat) (hb : base ≤ w.heap.size) : IRow (w.alloc (.cells #[] 3)) base (.slice (some ⟨w.heap.size, 0, none⟩) 0 0) [] :=
  Arr.own (vs := []) (Arr.new w 3 []) hb (by simp)

set_option maxRecDepth 100000 in
set_option maxHeartbeats 4000000 in
theorem zoneKnows_walk (a : Option Addr) (len cap : Nat) (F : Nat → Nat → Int) (w : World) (hR : Rws w w.heap.size .u8 3 (.slice a len cap) len F) (hlc : len ≤ cap) (hl : (len : Int) ≤ 9223372036854775807) :
    Calls Try.prog 16 #[.slice a len cap] w fun e w' => e = .returned (.bool true) ∧ Below w.heap.size w w' := by
  have himin : ∀ x y : Int, (if y < x then y else x) = iminZ x y := fun _ _ => rfl
  obtain ⟨M, hM⟩ : ∃ M : Nat, min len 100 = M := ⟨_, rfl⟩
  have e1 : iminZ (len : Int) 100 = (M : Int) := by have := iminZ_nat len 100; rw [hM] at this; exact this
  have b1 : M ≤ cap := by omega
  have b2 : M ≤ len := by omega
  have b3 : M ≤ 100 := by omega
  have HR := Lib.hid hR
  clear hR hM hlc
  go_enter Try.func16, Try.ntmps16
  go_wp2_with fail
  refine (tr_new w).mono ?_
  rintro e w0 ⟨rfl, hT0⟩
  obtain ⟨T, hT⟩ : ∃ T, w.heap.size = T := ⟨_, rfl⟩
  have HT := Lib.hid (hT0 w (Below.refl _ _)).1
  rw [hT] at HT ⊢
  clear hT0 hT
  go_wp2_with fail
  refine (zl_new (col := fun _ => 1) (c := 1) HT.out (fun _ _ => rfl) 4 30 (by decide) (by decide) (by decide) (by decide)).mono ?_
  rintro e w1 ⟨b, q, rfl, hbT, hN⟩
  subst hbT
  have HD := Lib.hid (show ZL w w1 _ 1 b ⟨0, 4, 30⟩ 1 q [[], [], [], []] from hN.st)
  clear hN HT
  go_wp2_with fail
  refine (zl_mark HD.out).mono ?_
  rintro e w' ⟨q2, mk, rfl, hM, hN, _, rfl⟩
  have HM := Lib.hid hM
  have HD2 := Lib.hid hN
  clear hM hN HD himin e1
  go_wp2
  obtain ⟨W, hW⟩ : ∃ W, w1.heap.size = W := ⟨_, rfl⟩
  have HE := Lib.hid (show ∃ col, ZE w (w1.alloc (.cells #[.slice none 0 0, .slice none 0 0, .slice none 0 0, .slice none 0 0] 78)) col b ⟨0, 4, 30⟩ 1 q2 [[], [], [], []] (PW w.heap.size [.slice none 0 0, .slice none 0 0, .slice none 0 0, .slice none 0 0] (fun j => ([[], [], [], []] : List (List Nat)).getD j [])) (fun W' => Arr W' W 78 [.slice none 0 0, .slice none 0 0, .slice none 0 0, .slice none 0 0]) ∧ col W = 3 from by
    have hA := Arr.new w1 78 [.slice none 0 0, .slice none 0 0, .slice none 0 0, .slice none 0 0]
    have hz := (ZE.of HD2.out).new3 (fb_alloc (Below.refl _ _) _) (Res.arr hA (recol_ge (Nat.le_refl _)))
    rw [hW] at hz
    refine ⟨_, ⟨hz.1, fun w' _ => PW.nil _ _ _ fun j hj => ?_, hz.2.2⟩, ?_⟩
    · match j, hj with
      | 0, _ => rfl
      | 1, _ => rfl
      | 2, _ => rfl
      | 3, _ => rfl
    · exact recol_ge (by omega))
  have hWw : w.heap.size ≤ W := by rw [← hW]; exact HD2.out.bel.size
  rw [hW]
  clear hW HD2
  go_loopw [5, 7] (fun mv x wr => ∃ (i : Nat) (y : Int), i ≤ M ∧ x = .int .i64 i ∧ mv = .int .i64 y ∧ Hid (∃ col L Lm V q n, ZE w wr col b ⟨0, 4, 30⟩ (1 + 1000 * i) q L (PW w.heap.size V (fun j => Lm.getD j [])) (fun W' => Arr W' W 78 V) ∧ col W = 3 ∧ V.length = 4 ∧ ZLMark ⟨0, 4, 30⟩ n q Lm y)) (fun _ x _ => M - (intOf x).toNat)
  case atStart =>
    obtain ⟨col, h1, h2⟩ := HE.out
    exact ⟨0, mk, Nat.zero_le _, rfl, rfl, Lib.hid ⟨col, _, _, _, _, _, h1, h2, rfl, HM.out⟩⟩
  case round =>
    obtain ⟨i, y, hiM, rfl, rfl, hst⟩ := hrel
    by_cases hlt : i < M
    · obtain ⟨a', c', e, _, _, hcells⟩ := HR.out
      injection e with e1 e2 e3
      subst e1 e3
      obtain ⟨B, o, rfl, hb, hcells⟩ := hcells.resolve_left (by omega)
      have hx := hcells i (by omega) 0 (by omega)
      have hy := hcells i (by omega) 1 (by omega)
      have hz := hcells i (by omega) 2 (by omega)
      obtain ⟨x0, hx0⟩ : ∃ x, F i 0 = x := ⟨_, rfl⟩
      obtain ⟨x1, hx1⟩ : ∃ x, F i 1 = x := ⟨_, rfl⟩
      obtain ⟨x2, hx2⟩ : ∃ x, F i 2 = x := ⟨_, rfl⟩
      rw [hx0] at hx
      rw [hx1] at hy
      rw [hx2] at hz
      have bx := u8_bd hx.2
      have by_ := u8_bd hy.2
      have bz := u8_bd hz.2
      have HC := Lib.hid (show ∀ W' : World, Below w.heap.size w W' → W'.cell? ⟨B, o + i * 3, none⟩ = some (.int .u8 x0) ∧ W'.cell? ⟨B, o + i * 3 + 1, none⟩ = some (.int .u8 x1) ∧ W'.cell? ⟨B, o + i * 3 + 2, none⟩ = some (.int .u8 x2) from fun W' hW =>
        ⟨(hW.cell (p := ⟨B, o + i * 3, none⟩) hb).trans hx.1, (hW.cell (p := ⟨B, o + i * 3 + 1, none⟩) hb).trans hy.1, (hW.cell (p := ⟨B, o + i * 3 + 2, none⟩) hb).trans hz.1⟩)
      obtain ⟨zn, hzn⟩ : ∃ z : Nat, x0 % 4 = z := ⟨(x0 % 4).toNat, by omega⟩
      obtain ⟨s, hs⟩ : ∃ s : Nat, x1 % 30 = s := ⟨(x1 % 30).toNat, by omega⟩
      have hzn4 : zn < 4 := by omega
      have hs30 : s < 30 := by omega
      have x00 := bx.1
      have x01 := bx.2
      have x10 := by_.1
      have x11 := by_.2
      have x20 := bz.1
      have x21 := bz.2
      obtain ⟨h, hh⟩ : ∃ h : Nat, (M : Int) / 2 = h := ⟨M / 2, by omega⟩
      have hi0 : (0 : Int) ≤ i := by omega
      have hi1 : (i : Int) < M := by omega
      clear hx hy hz bx by_ bz hx0 hx1 hx2 hcells hb HE HM
      by_cases hih : i = h
      · subst hih
        obtain ⟨col, L, Lm, V, qo, n, hZ, hcW, hVl, hMk⟩ := hst.out
        have HZ := Lib.hid hZ
        have HV := Lib.hid (And.intro hcW hVl)
        clear hst hZ hcW hVl hMk
        go_wp2_with fail
        refine (zl_mark HZ.out.z).mono ?_
        rintro e w' ⟨q2, mk2, rfl, hM, hN, hh2, rfl⟩
        have HM2 := Lib.hid hM
        have HZ2 := Lib.hid (show ZE w wr col b ⟨0, 4, 30⟩ (1 + 1000 * i) q2 L _ _ from ⟨hN, HZ.out.2⟩)
        clear hM hN hh2 HZ
        go_wp2
        go_loopw [8] (fun x wr => ∃ k : Nat, k ≤ 4 ∧ x = .int .i64 k ∧ Hid (∃ col V R, ZE w wr col b ⟨0, 4, 30⟩ (1 + 1000 * i) q2 L (PW w.heap.size V R) (fun W' => Arr W' W 78 V) ∧ col W = 3 ∧ V.length = 4 ∧ ∀ j, j < k → R j = L.getD j [])) (fun x _ => 4 - (intOf x).toNat)
        case atStart => exact ⟨0, by omega, rfl, Lib.hid ⟨col, V, _, HZ2.out, HV.out.1, HV.out.2, fun j hj => by omega⟩⟩
        case round =>
          obtain ⟨k, hk, rfl, hst⟩ := hrel
          obtain ⟨col, V, R, hZ, hcW, hVl, hRk⟩ := hst.out
          by_cases hk4 : k < 4
          · have k0 : (0 : Int) ≤ k := by omega
            have k1 : (k : Int) < 4 := by omega
            have ql := zl_list (hZ.z.below (fb_alloc (Below.refl _ _) (.cells #[] 3)) 9) (k : Int)
            rw [zget_nat] at ql
            obtain ⟨l8, hl8⟩ : ∃ l8, ints (L.getD k []) = l8 := ⟨_, rfl⟩
            rw [hl8] at ql
            have QL := Lib.hid ql
            have hll : l8.length ≤ 30 := by rw [← hl8, ints_length]; exact hZ.z.le k
            have HL8 := Lib.hid hl8
            have HK := Lib.hid (And.intro hZ (And.intro hcW (And.intro hVl hRk)))
            clear hst hZ hcW hVl hRk ql hl8 HZ2 HV
            go_upto_region 15 with (first
              | (go_at_call 39; refine QL.out.mono ?_; rintro e w2 ⟨r, rfl, hr, hb⟩; obtain ⟨x8, c8, rfl⟩ := hr.any; have hb2 := fb_call (fb_alloc (Below.refl _ wr) (.cells #[] 3)) hb; have he := (row_empty wr wr.heap.size (Nat.le_refl _)).below hb; have HB2 := Lib.hid hb2; have HE2 := Lib.hid he; have HR2 := Lib.hid hr; clear hr hb hb2 he)
              | (at_builtin; refine wpList_append_ints rfl (.tmp 46) (.tmp 49) rfl rfl HE2.out rfl (SInts.own HR2.out) (by simp; omega) HB2.out.size ?_; intro v3 w3 hr3 hg3 hf3; rw [List.nil_append] at hr3; obtain ⟨x9, c9, rfl⟩ := hr3.any; have HRB := Lib.hid hr3; have HR3 := Lib.hid (show IRow w3 w.heap.size (.slice x9 l8.length c9) l8 from own_mono hr3 HK.out.1.bel.size); have HB3 := Lib.hid (show Below wr.heap.size wr w3 from HB2.out.grown hg3 HB2.out.size (fun k e => (World.ownsRow.lt HE2.out k e).1)); clear hr3 hg3 hf3; have HA3 := Lib.hid (show Arr w3 W 78 V from HK.out.1.p3.below HB3.out HK.out.1.p3.lt); have cW : w3.cell? ⟨W, k, none⟩ = V[k]? := HA3.out.cell k; have fW := HA3.out.frozen k; have hVk : V[k]? = some (V.getD k (.slice none 0 0)) := (by rw [List.getD_eq_getElem?_getD, List.getElem?_eq_getElem (by rw [HK.out.2.2.1]; exact hk4)]; rfl); rw [hVk] at cW; clear hVk))
            have hfr : ∀ kk, (Value.slice x9 l8.length c9).ownBlock = some kk → wr.heap.size ≤ kk := fun kk hk => (World.ownsRow.lt HRB.out kk hk).1
            have HN := Lib.hid (show ∃ col V' R', ZE w (w3.setCell ⟨W, k, none⟩ (.slice x9 l8.length c9)) col b ⟨0, 4, 30⟩ (1 + 1000 * i) q2 L (PW w.heap.size V' R') (fun W' => Arr W' W 78 V') ∧ col W = 3 ∧ V'.length = 4 ∧ ∀ j, j < k + 1 → R' j = L.getD j [] from by
              have hZ := HK.out.1
              have h1 : ZE w w3 _ b ⟨0, 4, 30⟩ (1 + 1000 * i) q2 L (PW w.heap.size (V.set k (.slice x9 l8.length c9)) (fun j => if j = k then L.getD k [] else R j)) (fun W' => Arr W' W 78 V) :=
                hZ.new2 HB3.out (((hZ.2.1.made 2 HB3.out).and (Res.irow HR3.out fun kk hk => recol_ge (hfr kk hk))).imp fun W' hW' => hW'.1.put (by rw [if_pos rfl, HL8.out]; exact hW'.2) (by rw [HK.out.2.2.1]; exact hk4) (fun j hj => if_neg hj))
              have hWl : W < w3.heap.size := HA3.out.lt
              have hWw2 : W < wr.heap.size := hZ.p3.lt
              have h2 := h1.set3 (w' := w3.setCell ⟨W, k, none⟩ (.slice x9 l8.length c9)) (P := fun W' => Arr W' W 78 (V.set k (.slice x9 l8.length c9))) (Moved.of_set (S := fun j => j = W) _ _ _ rfl) (fun j hj _ => by rw [hj, recol_lt hWw2]; exact HK.out.2.1) (fun j hj => by rw [hj]; exact hWw) (Res.arr (HA3.out.set k _) (by rw [recol_lt hWl, recol_lt hWw2]; exact HK.out.2.1))
              exact ⟨_, _, _, h2, by rw [recol_lt hWl, recol_lt hWw2]; exact HK.out.2.1, by rw [List.length_set]; exact HK.out.2.2.1, fun j hj => by
                by_cases e : j = k
                · rw [if_pos e, e]
                · rw [if_neg e]; exact HK.out.2.2.2 j (by omega)⟩)
            clear hfr cW fW
            go_wp2
            go_roundw
            case rel => first | exact ⟨k + 1, by omega, by go_num, HN⟩ | ((repeat apply Exists.intro); exact ⟨⟨k + 1, by omega, by go_num, HN⟩, rfl⟩)
            case measure => simp [intOf]; omega
          · obtain rfl : k = 4 := by omega
            rw [show ((4 : Nat) : Int) = 4 from rfl]
            have HZ3 := Lib.hid (show ZE w wr col b ⟨0, 4, 30⟩ (1 + 1000 * i) q2 L (PW w.heap.size V (fun j => L.getD j [])) (fun W' => Arr W' W 78 V) from
              ⟨hZ.1, hZ.2.1.imp fun W' h j hj => by have := h j hj; rw [hRk j hj] at this; exact this, hZ.2.2⟩)
            have HCW := Lib.hid hcW
            have HVL := Lib.hid hVl
            have HMK := Lib.hid (show ZLMark ⟨0, 4, 30⟩ (1 + 1000 * i) q2 L mk2 from HM2.out)
            have HD := HZ3
            obtain ⟨wa, rfl⟩ : ∃ wo : World, wo = wr := ⟨_, rfl⟩
            clear hst hZ hcW hVl hRk HZ2 HV hk4 HZ3 HM2
            obtain ⟨cx0, cx1, _⟩ := HC.out wa HD.out.bel
            go_wp2
            go_quiet (fail)
            obtain ⟨wq, hwq⟩ : ∃ wq, wa.drewN nq = wq := ⟨_, rfl⟩
            have HCW := Lib.hid (cw3 (a := 9) HCW.out HD.out.p3.lt)
            have HD := Lib.hid (show ZE w wq _ b ⟨0, 4, 30⟩ (1 + 1000 * i) _ L _ _ by rw [← hwq]; exact HD.out.below (bel_drewN (Below.refl _ _) nq))
            rw [hwq]
            clear hwq cx0 cx1
            by_cases hin : inU L s = true
            · obtain ⟨z, j, hj, hz⟩ := HD.out.z.at ((inU_iff HD.out.z s).1 hin)
              have qw := zl_where_yes HD.out.z z j hj
              rw [hz] at qw
              have QW := Lib.hid qw
              have HJ := Lib.hid (And.intro hj hz)
              clear qw hj hz hin
              go_wp2_with fail
              refine QW.out.mono ?_
              rintro e w11 ⟨rfl, hb⟩
              have HCW := Lib.hid (cw3 (a := 9) HCW.out HD.out.p3.lt)
              have HD := Lib.hid (HD.out.below hb)
              clear hb
              clear QW
              obtain ⟨nn, hnn⟩ : ∃ nn, (L.getD zn []).length = nn := ⟨_, rfl⟩
              have hnn30 : nn ≤ 30 := by rw [← hnn]; exact HD.out.z.le zn
              have HNN := Lib.hid hnn
              have ql := zl_len HD.out.z (zn : Int)
              rw [zget_nat, hnn] at ql
              have QL := Lib.hid ql
              clear hnn ql
              go_wp2_with fail
              refine QL.out.mono ?_
              rintro e w12 ⟨rfl, hb⟩
              have HCW := Lib.hid (cw3 (a := 9) HCW.out HD.out.p3.lt)
              have HD := Lib.hid (HD.out.below hb)
              clear hb
              clear QL
              have qp := zl_put_twice HD.out.z zn z j 0 hzn4 HJ.out.1 (by decide) (by omega)
              rw [HJ.out.2] at qp
              have QP := Lib.hid qp
              clear qp
              go_wp2_with fail
              refine QP.out.mono ?_
              rintro e w13 ⟨rfl, hb⟩
              have HCW := Lib.hid (cw3 (a := 9) HCW.out HD.out.p3.lt)
              have HD := Lib.hid (HD.out.below hb)
              clear hb
              clear QP
              have qt := zl_take HD.out.z (by omega) z j HJ.out.1
              rw [HJ.out.2] at qt
              have QT := Lib.hid qt
              clear qt
              go_wp2_with fail
              refine QT.out.mono ?_
              rintro e w14 ⟨rfl, hN⟩
              have HCW := Lib.hid (cw3 (a := 1) HCW.out HD.out.p3.lt)
              have HD := Lib.hid (HD.out.zln hN)
              clear hN
              clear QT
              go_wp2_with fail
              refine (sound_any HD.out.z).mono ?_
              rintro e w20 ⟨rfl, hb⟩
              have HCW := Lib.hid (cw3 (a := 9) HCW.out HD.out.p3.lt)
              have HD := Lib.hid (HD.out.below hb)
              clear hb
              go_wp2
              go_roundw
              case rel => first | exact ⟨i + 1, mk2, by omega, by go_num, rfl, Lib.hid ⟨_, _, L, V, _, _, HD.out.mono (by omega), HCW.out, HVL.out, HMK.out⟩⟩ | ((repeat apply Exists.intro); exact ⟨⟨i + 1, mk2, by omega, by go_num, rfl, Lib.hid ⟨_, _, L, V, _, _, HD.out.mono (by omega), HCW.out, HVL.out, HMK.out⟩⟩, rfl⟩)
              case measure => simp [intOf]; omega
            · have hno : zno L (s : Int) := fun z t ht e => hin ((inU_iff HD.out.z s).2 ⟨z, by rw [show s = t by omega]; exact ht⟩)
              have HNO := Lib.hid hno
              clear hno hin
              go_wp2_with fail
              refine (zl_where_no HD.out.z (s : Int) HNO.out).mono ?_
              rintro e w11 ⟨rfl, hb⟩
              have HCW := Lib.hid (cw3 (a := 9) HCW.out HD.out.p3.lt)
              have HD := Lib.hid (HD.out.below hb)
              clear hb
              obtain ⟨nn, hnn⟩ : ∃ nn, (L.getD zn []).length = nn := ⟨_, rfl⟩
              have hnn30 : nn ≤ 30 := by rw [← hnn]; exact HD.out.z.le zn
              have HNN := Lib.hid hnn
              have ql := zl_len HD.out.z (zn : Int)
              rw [zget_nat, hnn] at ql
              have QL := Lib.hid ql
              clear hnn ql
              go_wp2_with fail
              refine QL.out.mono ?_
              rintro e w12 ⟨rfl, hb⟩
              have HCW := Lib.hid (cw3 (a := 9) HCW.out HD.out.p3.lt)
              have HD := Lib.hid (HD.out.below hb)
              clear hb
              clear QL
              obtain ⟨p, hp⟩ : ∃ p : Nat, x2 % ((nn : Int) + 1) = p := ⟨(x2 % ((nn : Int) + 1)).toNat, by have := Int.emod_nonneg x2 (show (nn : Int) + 1 ≠ 0 by omega); omega⟩
              have hpn : p ≤ nn := by have := Int.emod_lt_of_pos x2 (show 0 < (nn : Int) + 1 by omega); omega
              have cx2 := (HC.out w12 HD.out.bel).2.2
              have hn0 : (0 : Int) ≤ nn := by omega
              go_wp2_with fail
              refine (zl_put HD.out.z (by omega) zn s p hzn4 hs30 HNO.out (by rw [HNN.out]; exact hpn)).mono ?_
              rintro e w14 ⟨rfl, hN⟩
              have HCW := Lib.hid (cw3 (a := 1) HCW.out HD.out.p3.lt)
              have HD := Lib.hid (HD.out.zln hN)
              clear hN
              clear cx2
              go_wp2_with fail
              refine (sound_any HD.out.z).mono ?_
              rintro e w20 ⟨rfl, hb⟩
              have HCW := Lib.hid (cw3 (a := 9) HCW.out HD.out.p3.lt)
              have HD := Lib.hid (HD.out.below hb)
              clear hb
              go_wp2
              go_roundw
              case rel => first | exact ⟨i + 1, mk2, by omega, by go_num, rfl, Lib.hid ⟨_, _, L, V, _, _, HD.out.mono (by omega), HCW.out, HVL.out, HMK.out⟩⟩ | ((repeat apply Exists.intro); exact ⟨⟨i + 1, mk2, by omega, by go_num, rfl, Lib.hid ⟨_, _, L, V, _, _, HD.out.mono (by omega), HCW.out, HVL.out, HMK.out⟩⟩, rfl⟩)
              case measure => simp [intOf]; omega
      · obtain ⟨col, L, Lm, V, qo, n, hZ, hcW, hVl, hMk⟩ := hst.out
        obtain ⟨wa, rfl⟩ : ∃ wo : World, wo = wr := ⟨_, rfl⟩
        have HD := Lib.hid hZ
        have HCW := Lib.hid hcW
        have HVL := Lib.hid hVl
        have HMK := Lib.hid hMk
        have hihI : ¬ ((i : Int) = (h : Int)) := by omega
        clear hst hZ hcW hVl hMk
        obtain ⟨cx0, cx1, _⟩ := HC.out wa HD.out.bel
        go_wp2
        go_quiet (fail)
        obtain ⟨wq, hwq⟩ : ∃ wq, wa.drewN nq = wq := ⟨_, rfl⟩
        have HCW := Lib.hid (cw3 (a := 9) HCW.out HD.out.p3.lt)
        have HD := Lib.hid (show ZE w wq _ b ⟨0, 4, 30⟩ (1 + 1000 * i) _ L _ _ by rw [← hwq]; exact HD.out.below (bel_drewN (Below.refl _ _) nq))
        rw [hwq]
        clear hwq cx0 cx1
        by_cases hin : inU L s = true
        · obtain ⟨z, j, hj, hz⟩ := HD.out.z.at ((inU_iff HD.out.z s).1 hin)
          have qw := zl_where_yes HD.out.z z j hj
          rw [hz] at qw
          have QW := Lib.hid qw
          have HJ := Lib.hid (And.intro hj hz)
          clear qw hj hz hin
          go_wp2_with fail
          refine QW.out.mono ?_
          rintro e w11 ⟨rfl, hb⟩
          have HCW := Lib.hid (cw3 (a := 9) HCW.out HD.out.p3.lt)
          have HD := Lib.hid (HD.out.below hb)
          clear hb
          clear QW
          obtain ⟨nn, hnn⟩ : ∃ nn, (L.getD zn []).length = nn := ⟨_, rfl⟩
          have hnn30 : nn ≤ 30 := by rw [← hnn]; exact HD.out.z.le zn
          have HNN := Lib.hid hnn
          have ql := zl_len HD.out.z (zn : Int)
          rw [zget_nat, hnn] at ql
          have QL := Lib.hid ql
          clear hnn ql
          go_wp2_with fail
          refine QL.out.mono ?_
          rintro e w12 ⟨rfl, hb⟩
          have HCW := Lib.hid (cw3 (a := 9) HCW.out HD.out.p3.lt)
          have HD := Lib.hid (HD.out.below hb)
          clear hb
          clear QL
          have qp := zl_put_twice HD.out.z zn z j 0 hzn4 HJ.out.1 (by decide) (by omega)
          rw [HJ.out.2] at qp
          have QP := Lib.hid qp
          clear qp
          go_wp2_with fail
          refine QP.out.mono ?_
          rintro e w13 ⟨rfl, hb⟩
          have HCW := Lib.hid (cw3 (a := 9) HCW.out HD.out.p3.lt)
          have HD := Lib.hid (HD.out.below hb)
          clear hb
          clear QP
          have qt := zl_take HD.out.z (by omega) z j HJ.out.1
          rw [HJ.out.2] at qt
          have QT := Lib.hid qt
          clear qt
          go_wp2_with fail
          refine QT.out.mono ?_
          rintro e w14 ⟨rfl, hN⟩
          have HCW := Lib.hid (cw3 (a := 1) HCW.out HD.out.p3.lt)
          have HD := Lib.hid (HD.out.zln hN)
          clear hN
          clear QT
          go_wp2_with fail
          refine (sound_any HD.out.z).mono ?_
          rintro e w20 ⟨rfl, hb⟩
          have HCW := Lib.hid (cw3 (a := 9) HCW.out HD.out.p3.lt)
          have HD := Lib.hid (HD.out.below hb)
          clear hb
          go_wp2
          go_roundw
          case rel => first | exact ⟨i + 1, y, by omega, by go_num, rfl, Lib.hid ⟨_, _, Lm, V, _, _, HD.out.mono (by omega), HCW.out, HVL.out, HMK.out⟩⟩ | ((repeat apply Exists.intro); exact ⟨⟨i + 1, y, by omega, by go_num, rfl, Lib.hid ⟨_, _, Lm, V, _, _, HD.out.mono (by omega), HCW.out, HVL.out, HMK.out⟩⟩, rfl⟩)
          case measure => simp [intOf]; omega
        · have hno : zno L (s : Int) := fun z t ht e => hin ((inU_iff HD.out.z s).2 ⟨z, by rw [show s = t by omega]; exact ht⟩)
          have HNO := Lib.hid hno
          clear hno hin
          go_wp2_with fail
          refine (zl_where_no HD.out.z (s : Int) HNO.out).mono ?_
          rintro e w11 ⟨rfl, hb⟩
          have HCW := Lib.hid (cw3 (a := 9) HCW.out HD.out.p3.lt)
          have HD := Lib.hid (HD.out.below hb)
          clear hb
          obtain ⟨nn, hnn⟩ : ∃ nn, (L.getD zn []).length = nn := ⟨_, rfl⟩
          have hnn30 : nn ≤ 30 := by rw [← hnn]; exact HD.out.z.le zn
          have HNN := Lib.hid hnn
          have ql := zl_len HD.out.z (zn : Int)
          rw [zget_nat, hnn] at ql
          have QL := Lib.hid ql
          clear hnn ql
          go_wp2_with fail
          refine QL.out.mono ?_
          rintro e w12 ⟨rfl, hb⟩
          have HCW := Lib.hid (cw3 (a := 9) HCW.out HD.out.p3.lt)
          have HD := Lib.hid (HD.out.below hb)
          clear hb
          clear QL
          obtain ⟨p, hp⟩ : ∃ p : Nat, x2 % ((nn : Int) + 1) = p := ⟨(x2 % ((nn : Int) + 1)).toNat, by have := Int.emod_nonneg x2 (show (nn : Int) + 1 ≠ 0 by omega); omega⟩
          have hpn : p ≤ nn := by have := Int.emod_lt_of_pos x2 (show 0 < (nn : Int) + 1 by omega); omega
          have cx2 := (HC.out w12 HD.out.bel).2.2
          have hn0 : (0 : Int) ≤ nn := by omega
          go_wp2_with fail
          refine (zl_put HD.out.z (by omega) zn s p hzn4 hs30 HNO.out (by rw [HNN.out]; exact hpn)).mono ?_
          rintro e w14 ⟨rfl, hN⟩
          have HCW := Lib.hid (cw3 (a := 1) HCW.out HD.out.p3.lt)
          have HD := Lib.hid (HD.out.zln hN)
          clear hN
          clear cx2
          go_wp2_with fail
          refine (sound_any HD.out.z).mono ?_
          rintro e w20 ⟨rfl, hb⟩
          have HCW := Lib.hid (cw3 (a := 9) HCW.out HD.out.p3.lt)
          have HD := Lib.hid (HD.out.below hb)
          clear hb
          go_wp2
          go_roundw
          case rel => first | exact ⟨i + 1, y, by omega, by go_num, rfl, Lib.hid ⟨_, _, Lm, V, _, _, HD.out.mono (by omega), HCW.out, HVL.out, HMK.out⟩⟩ | ((repeat apply Exists.intro); exact ⟨⟨i + 1, y, by omega, by go_num, rfl, Lib.hid ⟨_, _, Lm, V, _, _, HD.out.mono (by omega), HCW.out, HVL.out, HMK.out⟩⟩, rfl⟩)
          case measure => simp [intOf]; omega
    · obtain rfl : M = i := by omega
      obtain ⟨col, L, Lm, V, qo, n, hZ, hcW, hVl, hMk⟩ := hst.out
      have HD := Lib.hid hZ
      have HVL := Lib.hid hVl
      have HMK := Lib.hid hMk
      clear hst hZ hcW hVl hMk hlt HE HM
      go_wp2_with fail
      refine (zl_back HD.out.z (by omega) HMK.out).mono ?_
      rintro e w2 ⟨rfl, hN⟩
      have HD := Lib.hid (HD.out.zln hN)
      clear hN HMK
      go_wp2
      go_loopw [15] (fun x wr => ∃ k : Nat, k ≤ 4 ∧ x = .int .i64 k ∧ Hid (∃ col, ZE w wr col b ⟨0, 4, 30⟩ n qo Lm (PW w.heap.size V (fun j => Lm.getD j [])) (fun W' => Arr W' W 78 V))) (fun x _ => 4 - (intOf x).toNat)
      case atStart => exact ⟨0, by omega, rfl, Lib.hid ⟨_, HD.out⟩⟩
      case round =>
        obtain ⟨k, hk, rfl, hst⟩ := hrel
        obtain ⟨col, hZ⟩ := hst.out
        by_cases hk4 : k < 4
        · have k0 : (0 : Int) ≤ k := by omega
          have k1 : (k : Int) < 4 := by omega
          have hrow := hZ.p2 k hk4
          obtain ⟨av, cv, hav⟩ := hrow.any
          obtain ⟨nv, hnv⟩ : ∃ nv, (ints (Lm.getD k [])).length = nv := ⟨_, rfl⟩
          have hle : (ints (Lm.getD k [])).length ≤ 1000000 := by rw [ints_length]; have : (Lm.getD k []).length ≤ 30 := hZ.z.le k; omega
          rw [hnv] at hav
          have hVk : V[k]? = some (.slice av nv cv) := by rw [← hav, List.getD_eq_getElem?_getD, List.getElem?_eq_getElem (by rw [HVL.out]; exact hk4)]; rfl
          have HAV := Lib.hid (And.intro hav (And.intro hVk hle))
          have HX := HD
          clear HD
          have HD := Lib.hid (hZ.below (w' := wr.drew) ⟨rfl, rfl, rfl, Nat.le_refl _, fun _ _ => rfl⟩)
          clear hst hZ hrow hav hnv hVk hle
          go_wp2_with fail
          go_region_held3 (fun wy => wy.cell? ⟨W, k, none⟩ = some (.slice av nv cv)) (exact ((HD.out.p3).cell k).trans HAV.out.2.1)
            (first
              | (go_at_call 39; refine (zl_list HD.out.z (k : Int)).mono ?_; rintro e wN ⟨r, rfl, hr, hb⟩; rw [zget_nat] at hr; have HR := Lib.hid hr; have HD2 := Lib.hid (HD.out.below hb); clear HD hr hb; have HD := HD2; clear HD2)
              | (go_at_call 41; refine (zalike_any _ _ _ (ints (Lm.getD k [])) (ints (Lm.getD k [])) _ (HR.out.ints (Nat.le_refl _)) (by have := (HD.out.p2 k hk4).ints (Nat.le_refl _); rw [HAV.out.1] at this; exact this) HAV.out.2.2).mono ?_; rw [alk_same]; rintro e wN ⟨rfl, hb⟩; have HD2 := Lib.hid (HD.out.below hb); clear HD HR hb; have HD := HD2; clear HD2))
          go_wp2
          go_roundw
          case rel => first | exact ⟨k + 1, by omega, by go_num, Lib.hid ⟨_, HD.out⟩⟩ | ((repeat apply Exists.intro); exact ⟨⟨k + 1, by omega, by go_num, Lib.hid ⟨_, HD.out⟩⟩, rfl⟩)
          case measure => simp [intOf]; omega
        · obtain rfl : k = 4 := by omega
          rw [show ((4 : Nat) : Int) = 4 from rfl]
          have HD4 := Lib.hid hZ
          clear hst hZ hk4 HD
          go_wp2_with fail
          refine (sound_any HD4.out.z).mono ?_
          rintro e w5 ⟨rfl, hb⟩
          have HB := Lib.hid (fb_call HD4.out.bel hb)
          clear hb
          go_wp2_with fail
          refine (zworks_any _).mono ?_
          rintro e w6 ⟨rfl, hc⟩
          have HC := Lib.hid hc
          clear hc
          go_wp2
          go_ret
          exact ⟨rfl, fb_call HB.out HC.out⟩
end Go.Proofs.Ytfkkkndigkchcaa
