/- The walk of ZonePlays. No condition. -/
import Derived.Test.YtfkkkndigkchcaaZoneMid
import Derived.Test.YtfkkkndigkchcaaZoneW
import Derived.Test.YtfkkkndigkchcaaQTail
import Derived.Deep.CutBlock
namespace Go.Proofs.Ytfkkkndigkchcaa
open Go.ChangeShapes Go.WideShapes Go.ChangeAt Go.RowKit
attribute [local irreducible] Calls

/-- The acts: four numbers and a list each. -/
def Acts (w : World) (a : Option Addr) (len : Nat) (F : Nat → Nat → Int) (V : Nat → Value) (P : Nat → List Int) : Prop :=
  len = 0 ∨ ∃ B o, a = some ⟨B, o, none⟩ ∧ B < w.heap.size ∧ ∀ i, i < len → (∀ j, j < 4 → w.cell? ⟨B, o + i * 5 + j, none⟩ = some (.int .i64 (F i j))) ∧ w.cell? ⟨B, o + i * 5 + 4, none⟩ = some (V i) ∧ Ints w w.heap.size (V i) (P i)
def zks (S : List ZEM) : List Int := (S.map (·.x)).reverse
def zps (S : List ZEM) : List ZE1 := (S.map fun e => (⟨e.p, e.c, e.L⟩ : ZE1)).reverse
theorem zks_push (S : List ZEM) (e : ZEM) : zks (e :: S) = zks S ++ [e.x] := by simp [zks]
theorem zps_push (S : List ZEM) (e : ZEM) : zps (e :: S) = zps S ++ [⟨e.p, e.c, e.L⟩] := by simp [zps]
theorem zks_len (S : List ZEM) : (zks S).length = S.length := by simp [zks]
theorem zps_len (S : List ZEM) : (zps S).length = S.length := by simp [zps]
theorem z_start (w : World) {w1 w2 w3 : World} {A' : Nat} {b : ZB} {g : ZG} {q : List Int × List (Int × Int)} {L : List (List Nat)} {lv : Value} {vals : List Value} (hs : w.heap.size ≤ w1.heap.size) (hN : ZLN w w1 w2 (fun j => if j < w.heap.size then 0 else 1) 1 b g 1 q L) (hD : DZ w3 w2.heap.size A' g.slots lv vals L) (hb : Below w2.heap.size w2 w3) :
    ZR w w3 b g ⟨1, q, L, A', 10, 11, L, .slice none 0 0, [], .slice none 0 0, [], 0, []⟩ := by
  have hst := hN.st
  have hm := hN.mv.size
  refine ⟨recol w2.heap.size (recol w1.heap.size (fun j => if j < w.heap.size then 0 else 1) 1) 10, fb_call hst.bel hb, fun j hj => ?_, fun _ => hst.below hb 10, fun _ => ZDC.fresh 10 hD hst.bel.size, fun p hp => (by cases hp), fun _ => RowC.nil _ _ _ _ _ _, fun _ => RowC.nil _ _ _ _ _ _, fun hn => absurd rfl hn, ⟨Nat.le_refl _, by show (10 : Nat) < 11; omega⟩, fun p hp => (by cases hp), List.nodup_nil⟩
  rw [recol_lt (by omega), recol_lt (by omega), if_pos hj]
theorem zq_put' {w0 w : World} {b : ZB} {g : ZG} {s : ZY} {pe : Int} {pL : List (List Nat)} (h : ZQ w0 w b g s) (hk : s.k ≤ 800000000) (z i t : Int) (hp : putE s.L g.slots z i t = (pe, pL)) : Calls Try.prog 37 #[.pointer (some ⟨b.Z, 0, none⟩), .int .i64 z, .int .i64 i, .int .i64 t] w fun e w' => e = .returned (.int .i64 pe) ∧ ZQ w0 w' b g { s with k := s.k + 1000, L := pL } := by
  have := zq_put h hk z i t; rw [hp] at this; exact this
theorem dq_put' {w0 w : World} {b : ZB} {g : ZG} {s : ZY} {pe : Int} {pL : List (List Nat)} (h : ZQ w0 w b g s) (ho : ZOk s.Ld g.slots) (z i t : Int) (hp : putE s.Ld g.slots z i t = (pe, pL)) : Calls Try.prog 67 #[.pointer (some ⟨s.Rp, 0, none⟩), .int .i64 z, .int .i64 i, .int .i64 t] w fun e w' => e = .returned (.int .i64 pe) ∧ ZQ w0 w' b g { s with Ld := pL } := by
  have := dq_put h ho z i t; rw [hp] at this; exact this
theorem zq_take' {w0 w : World} {b : ZB} {g : ZG} {s : ZY} {pe : Int} {pL : List (List Nat)} (h : ZQ w0 w b g s) (hk : s.k ≤ 800000000) (t : Int) (hp : takeE s.L t = (pe, pL)) : Calls Try.prog 40 #[.pointer (some ⟨b.Z, 0, none⟩), .int .i64 t] w fun e w' => e = .returned (.int .i64 pe) ∧ ZQ w0 w' b g { s with k := s.k + 1000, L := pL } := by
  have := zq_take h hk t; rw [hp] at this; exact this
theorem dq_take' {w0 w : World} {b : ZB} {g : ZG} {s : ZY} {pe : Int} {pL : List (List Nat)} (h : ZQ w0 w b g s) (ho : ZOk s.Ld g.slots) (hu : Uq s.Ld) (t : Int) (hp : takeE s.Ld t = (pe, pL)) : Calls Try.prog 68 #[.pointer (some ⟨s.Rp, 0, none⟩), .int .i64 t] w fun e w' => e = .returned (.int .i64 pe) ∧ ZQ w0 w' b g { s with Ld := pL } := by
  have := dq_take h ho hu t; rw [hp] at this; exact this
theorem zq_re' {w0 w : World} {b : ZB} {g : ZG} {s : ZY} {pe : Int} {pL : List (List Nat)} (h : ZQ w0 w b g s) (hk : s.k ≤ 800000000) (z : Int) (v : Value) (pm : List Int) (hv : Ints w0 w0.heap.size v pm) (hp : reE s.L z pm = (pe, pL)) : Calls Try.prog 63 #[.pointer (some ⟨b.Z, 0, none⟩), .int .i64 z, v] w fun e w' => e = .returned (.int .i64 pe) ∧ ZQ w0 w' b g { s with k := s.k + 1000, L := pL } := by
  have := zq_re h hk z v pm hv; rw [hp] at this; exact this
theorem dq_re' {w0 w : World} {b : ZB} {g : ZG} {s : ZY} {pe : Int} {pL : List (List Nat)} (h : ZQ w0 w b g s) (ho : ZOk s.Ld g.slots) (z : Int) (v : Value) (pm : List Int) (h4 : pm.length ≤ 40) (hv : Ints w0 w0.heap.size v pm) (hp : reE s.Ld z pm = (pe, pL)) : Calls Try.prog 69 #[.pointer (some ⟨s.Rp, 0, none⟩), .int .i64 z, v] w fun e w' => e = .returned (.int .i64 pe) ∧ ZQ w0 w' b g { s with Ld := pL } := by
  have := dq_re h ho z v pm h4 hv; rw [hp] at this; exact this
set_option maxRecDepth 100000 in
set_option maxHeartbeats 8000000 in
theorem zonePlays_walk (zz ss : Int) (a : Option Addr) (len cap : Nat) (F : Nat → Nat → Int) (V : Nat → Value) (P : Nat → List Int) (w : World) (hR : Acts w a len F V P) (hl : (len : Int) ≤ 9223372036854775807) :
    Calls Try.prog 17 #[.int .i64 zz, .int .i64 ss, .slice a len cap] w fun e w' => e = .returned (.bool true) ∧ Below w.heap.size w w' := by
  obtain ⟨ip, hpi, hp0, hp1, hp2⟩ := info_parts infoPZ
  have HR := Lib.hid hR
  clear hR
  by_cases hsz : (zz < 1 ∨ 64 < zz) ∨ (ss < 1 ∨ 256 < ss)
  · have HSZ := Lib.hid hsz
    clear hsz
    go_enter Try.func17, Try.ntmps17
    go_wp2_with fail
    refine (tr_new w).mono ?_
    rintro e w1 ⟨rfl, hT0⟩
    obtain ⟨T, hT⟩ : ∃ T, w.heap.size = T := ⟨_, rfl⟩
    have HB := Lib.hid (hT0 w (Below.refl _ _)).2
    clear hT0
    go_wp2_with fail
    refine (znew_no w1 _ zz ss (by have := HSZ.out; omega)).mono ?_
    rintro e w2 ⟨rfl, hb2⟩
    have HB2 := Lib.hid (fb_call HB.out hb2)
    clear hb2
    go_wp2_with fail
    refine (dznew_no w2 zz ss HSZ.out).mono ?_
    rintro e w2' ⟨rfl, rfl⟩
    go_wp2_with fail
    refine (zworks_any w2).mono ?_
    rintro e w3 ⟨rfl, hc⟩
    have HC := Lib.hid (fb_call HB2.out hc)
    clear hc hT
    go_wp2
    go_ret
    exact ⟨rfl, HC.out⟩
  · obtain ⟨zn, rfl⟩ := Int.eq_ofNat_of_zero_le (show 0 ≤ zz by omega)
    obtain ⟨sn, rfl⟩ := Int.eq_ofNat_of_zero_le (show 0 ≤ ss by omega)
    have hz1 : 1 ≤ zn := by omega
    have hz2 : zn ≤ 64 := by omega
    have hs1 : 1 ≤ sn := by omega
    have hs2 : sn ≤ 256 := by omega
    clear hsz
    go_enter Try.func17, Try.ntmps17
    go_wp2_with fail
    refine (tr_new w).mono ?_
    rintro e w1 ⟨rfl, hT0⟩
    obtain ⟨T, hT⟩ : ∃ T, w.heap.size = T := ⟨_, rfl⟩
    have HT := Lib.hid (hT0 w (Below.refl _ _)).1
    have HS1 := Lib.hid (hT0 w (Below.refl _ _)).2.size
    rw [hT] at HT ⊢
    clear hT0 hT
    go_wp2_with fail
    refine (zl_new (col := fun j => if j < w.heap.size then 0 else 1) (c := 1) HT.out (fun j hj => if_neg (Nat.not_lt.2 (HT.out.base hj).1)) zn sn hz1 hz2 hs1 hs2).mono ?_
    rintro e w2 ⟨b, q, rfl, hbT, hN⟩
    have HN := Lib.hid hN
    subst hbT
    clear hN HT
    go_wp2_with fail
    refine (dznew_any w2 zn sn hz1 hz2 hs1 hs2).mono ?_
    rintro e w3 ⟨A', lv, vals, rfl, hD, hb⟩
    have HS := Lib.hid (z_start w HS1.out HN.out hD hb)
    clear hD hb HN HS1
    go_wp2
    go_loopw [9, 10, 11, 12] (fun x9 x10 x11 x12 wr => ∃ (i k : Nat) (q : List Int × List (Int × Int)) (L : List (List Nat)) (Rp cr nx : Nat) (kv sv : Value) (S : List ZEM) (X0 : Nat) (xs0 : List Value), i ≤ len ∧ i ≤ 80 ∧ x12 = .int .i64 i ∧ x9 = .pointer (some ⟨Rp, 0, none⟩) ∧ kv = x10 ∧ sv = x11 ∧
      Hid (ZR w wr b ⟨0, zn, sn⟩ ⟨k, q, L, Rp, cr, nx, L, kv, zks S, sv, zps S, X0, xs0⟩ ∧ k ≤ 1 + 1000 * i ∧ ZChn ⟨0, zn, sn⟩ k q S ∧ S.length ≤ i)) (fun _ _ _ x _ => len - (intOf x).toNat)
    case atStart => exact ⟨0, 1, _, _, _, _, _, _, _, [], _, _, Nat.zero_le _, by omega, rfl, rfl, rfl, rfl, Lib.hid ⟨HS.out, by omega, trivial, by simp⟩⟩
    case round =>
      obtain ⟨i, k, q, L, Rp, cr, nx, kv, sv, S, X0, xs0, hil, hi80, rfl, rfl, rfl, rfl, hst⟩ := hrel
      by_cases hlt : i < len
      · by_cases h80 : i < 80
        · obtain ⟨B, o, rfl, hb, hcells⟩ := HR.out.resolve_left (by omega)
          obtain ⟨hx, hv, hP⟩ := hcells i hlt
          have hbw := hst.out.1.bel
          obtain ⟨vx, vc, hVe, _⟩ := hP.parts
          rw [hVe] at hv hP
          obtain ⟨x0, hx0⟩ : ∃ x, F i 0 = x := ⟨_, rfl⟩
          obtain ⟨x1, hx1⟩ : ∃ x, F i 1 = x := ⟨_, rfl⟩
          obtain ⟨x2, hx2⟩ : ∃ x, F i 2 = x := ⟨_, rfl⟩
          obtain ⟨x3, hx3⟩ : ∃ x, F i 3 = x := ⟨_, rfl⟩
          obtain ⟨pl, hpl⟩ : ∃ pl, P i = pl := ⟨_, rfl⟩
          rw [hpl] at hv hP
          have cx0 : wr.cell? ⟨B, o + i * 5, none⟩ = some (.int .i64 x0) := (hbw.cell (p := ⟨B, o + i * 5, none⟩) hb).trans (hx0 ▸ hx 0 (by omega))
          have cx1 : wr.cell? ⟨B, o + i * 5 + 1, none⟩ = some (.int .i64 x1) := (hbw.cell (p := ⟨B, o + i * 5 + 1, none⟩) hb).trans (hx1 ▸ hx 1 (by omega))
          have cx2 : wr.cell? ⟨B, o + i * 5 + 2, none⟩ = some (.int .i64 x2) := (hbw.cell (p := ⟨B, o + i * 5 + 2, none⟩) hb).trans (hx2 ▸ hx 2 (by omega))
          have cx3 : wr.cell? ⟨B, o + i * 5 + 3, none⟩ = some (.int .i64 x3) := (hbw.cell (p := ⟨B, o + i * 5 + 3, none⟩) hb).trans (hx3 ▸ hx 3 (by omega))
          have cx4 : wr.cell? ⟨B, o + i * 5 + 4, none⟩ = some (.slice vx pl.length vc) := (hbw.cell (p := ⟨B, o + i * 5 + 4, none⟩) hb).trans hv
          have HP := Lib.hid hP
          have HST := hst
          have i0 : (0 : Int) ≤ i := by omega
          have i1 : (i : Int) < len := by omega
          have i2 : (i : Int) < 80 := by omega
          clear hst hbw hx hv hP hVe hx0 hx1 hx2 hx3 hpl hcells hb HS
          go_upto_region 11 with fail
          obtain ⟨X, hX⟩ : ∃ X, wr.heap.size = X := ⟨_, rfl⟩
          obtain ⟨wa, hwa⟩ : ∃ wa, wr.alloc (.cells #[.int .i64 x0, .int .i64 x1, .int .i64 x2, .int .i64 x3, .slice vx pl.length vc] 87) = wa := ⟨_, rfl⟩
          have HQ := Lib.hid (show ZQ w wa b ⟨0, zn, sn⟩ ⟨k, q, L, Rp, cr, nx, L, kv, zks S, sv, zps S, X, [.int .i64 x0, .int .i64 x1, .int .i64 x2, .int .i64 x3, .slice vx pl.length vc]⟩ from by
            rw [← hwa, ← hX]
            exact HST.out.1.act (fb_alloc (Below.refl _ _) _) (Arr.new wr _ [.int .i64 x0, .int .i64 x1, .int .i64 x2, .int .i64 x3, .slice vx pl.length vc]) (Nat.le_refl _))
          have HK := Lib.hid HST.out.2
          rw [hwa, hX]
          have c0 : wa.cell? ⟨X, 0, none⟩ = some (.int .i64 x0) := HQ.out.box.cell 0
          have c1 : wa.cell? ⟨X, 1, none⟩ = some (.int .i64 x1) := HQ.out.box.cell 1
          have c2 : wa.cell? ⟨X, 2, none⟩ = some (.int .i64 x2) := HQ.out.box.cell 2
          have c3 : wa.cell? ⟨X, 3, none⟩ = some (.int .i64 x3) := HQ.out.box.cell 3
          have c4 : wa.cell? ⟨X, 4, none⟩ = some (.slice vx pl.length vc) := HQ.out.box.cell 4
          obtain ⟨kx, kc, hkv⟩ := HQ.out.marks.any
          have hkv' : kv = .slice kx S.length kc := by rw [← zks_len]; exact hkv
          subst hkv'
          obtain ⟨sx, sc, hsv⟩ := zown_any HQ.out.saved
          have hsv' : sv = .slice sx S.length sc := by rw [← zps_len]; exact hsv
          subst hsv'
          have hsl : S.length ≤ 80 := by have := HK.out.2.2; omega
          have hk8 : k ≤ 80001 := by have := HK.out.1; omega
          clear hwa hX cx0 cx1 cx2 cx3 cx4 HST hkv hsv
          go_upto_block 2 with fail
          go_cut [9, 10, 11] from 43 to 178 (fun s9 s10 s11 wx => ∃ (k' : Nat) (q' : List Int × List (Int × Int)) (L' : List (List Nat)) (Rp' cr' nx' : Nat) (kv' sv' : Value) (S' : List ZEM), s9 = .pointer (some ⟨Rp', 0, none⟩) ∧ kv' = s10 ∧ sv' = s11 ∧
            Hid (ZQ w wx b ⟨0, zn, sn⟩ ⟨k', q', L', Rp', cr', nx', L', kv', zks S', sv', zps S', X, [.int .i64 x0, .int .i64 x1, .int .i64 x2, .int .i64 x3, .slice vx pl.length vc]⟩ ∧ k' ≤ 1 + 1000 * (i + 1) ∧ ZChn ⟨0, zn, sn⟩ k' q' S' ∧ S'.length ≤ i + 1))
          case first =>
            by_cases h0 : x0 = 0
            · subst h0
              go_upto_region 19 with fail
              obtain ⟨pe, pL, hpe⟩ : ∃ pe pL, putE L sn x1 x2 x3 = (pe, pL) := ⟨_, _, rfl⟩
              have HPE := Lib.hid hpe
              clear hpe
              have hdr : Below wa.heap.size wa wa.drew := ⟨rfl, rfl, rfl, Nat.le_refl _, fun _ _ => rfl⟩
              have HD := Lib.hid (HQ.out.below hdr)
              have HOK := Lib.hid HQ.out.ok
              have HUQ := Lib.hid HQ.out.uq
              have hB : (pe != pe) = false := by simp
              clear hdr HQ c0
              go_region_held3 (fun wy => wy.cell? ⟨X, 1, none⟩ = some (.int .i64 x1) ∧ wy.cell? ⟨X, 2, none⟩ = some (.int .i64 x2) ∧ wy.cell? ⟨X, 3, none⟩ = some (.int .i64 x3)) (exact ⟨HD.out.box.cell 1, HD.out.box.cell 2, HD.out.box.cell 3⟩)
                (first
                  | (go_at_call 37; refine (zq_put' HD.out (show k ≤ 800000000 by omega) x1 x2 x3 HPE.out).mono ?_; rintro e wn ⟨rfl, hN⟩; clear HD; have HD := Lib.hid hN; clear hN)
                  | (go_at_call 67; refine (dq_put' HD.out HOK.out x1 x2 x3 HPE.out).mono ?_; rintro e wn ⟨rfl, hN⟩; clear HD; have HD := Lib.hid hN; clear hN))
              go_wp2
              go_meet
              exact ⟨k + 1000, q, pL, Rp, cr, nx, _, _, S, rfl, rfl, rfl, Lib.hid ⟨HD.out, by have := HK.out.1; omega, HK.out.2.1.mono (by omega), by have := HK.out.2.2; omega⟩⟩
            · by_cases h1 : x0 = 1
              · subst h1
                go_upto_region 19 with fail
                obtain ⟨pe, pL, hpe⟩ : ∃ pe pL, putE L sn x1 x2 x3 = (pe, pL) := ⟨_, _, rfl⟩
                have HPE := Lib.hid hpe
                clear hpe
                have hdr : Below wa.heap.size wa wa.drew := ⟨rfl, rfl, rfl, Nat.le_refl _, fun _ _ => rfl⟩
                have HD := Lib.hid (HQ.out.below hdr)
                have HOK := Lib.hid HQ.out.ok
                have HUQ := Lib.hid HQ.out.uq
                have hB : (pe != pe) = false := by simp
                clear hdr HQ c0
                go_region_held3 (fun wy => wy.cell? ⟨X, 1, none⟩ = some (.int .i64 x1) ∧ wy.cell? ⟨X, 2, none⟩ = some (.int .i64 x2) ∧ wy.cell? ⟨X, 3, none⟩ = some (.int .i64 x3)) (exact ⟨HD.out.box.cell 1, HD.out.box.cell 2, HD.out.box.cell 3⟩)
                  (first
                    | (go_at_call 37; refine (zq_put' HD.out (show k ≤ 800000000 by omega) x1 x2 x3 HPE.out).mono ?_; rintro e wn ⟨rfl, hN⟩; clear HD; have HD := Lib.hid hN; clear hN)
                    | (go_at_call 67; refine (dq_put' HD.out HOK.out x1 x2 x3 HPE.out).mono ?_; rintro e wn ⟨rfl, hN⟩; clear HD; have HD := Lib.hid hN; clear hN))
                go_wp2
                go_meet
                exact ⟨k + 1000, q, pL, Rp, cr, nx, _, _, S, rfl, rfl, rfl, Lib.hid ⟨HD.out, by have := HK.out.1; omega, HK.out.2.1.mono (by omega), by have := HK.out.2.2; omega⟩⟩
              · by_cases h2 : x0 = 2
                · subst h2
                  go_upto_region 19 with fail
                  obtain ⟨pe, pL, hpe⟩ : ∃ pe pL, putE L sn x1 x2 x3 = (pe, pL) := ⟨_, _, rfl⟩
                  have HPE := Lib.hid hpe
                  clear hpe
                  have hdr : Below wa.heap.size wa wa.drew := ⟨rfl, rfl, rfl, Nat.le_refl _, fun _ _ => rfl⟩
                  have HD := Lib.hid (HQ.out.below hdr)
                  have HOK := Lib.hid HQ.out.ok
                  have HUQ := Lib.hid HQ.out.uq
                  have hB : (pe != pe) = false := by simp
                  clear hdr HQ c0
                  go_region_held3 (fun wy => wy.cell? ⟨X, 1, none⟩ = some (.int .i64 x1) ∧ wy.cell? ⟨X, 2, none⟩ = some (.int .i64 x2) ∧ wy.cell? ⟨X, 3, none⟩ = some (.int .i64 x3)) (exact ⟨HD.out.box.cell 1, HD.out.box.cell 2, HD.out.box.cell 3⟩)
                    (first
                      | (go_at_call 37; refine (zq_put' HD.out (show k ≤ 800000000 by omega) x1 x2 x3 HPE.out).mono ?_; rintro e wn ⟨rfl, hN⟩; clear HD; have HD := Lib.hid hN; clear hN)
                      | (go_at_call 67; refine (dq_put' HD.out HOK.out x1 x2 x3 HPE.out).mono ?_; rintro e wn ⟨rfl, hN⟩; clear HD; have HD := Lib.hid hN; clear hN))
                  go_wp2
                  go_meet
                  exact ⟨k + 1000, q, pL, Rp, cr, nx, _, _, S, rfl, rfl, rfl, Lib.hid ⟨HD.out, by have := HK.out.1; omega, HK.out.2.1.mono (by omega), by have := HK.out.2.2; omega⟩⟩
                · by_cases h3 : x0 = 3
                  · subst h3
                    go_upto_region 22 with fail
                    obtain ⟨pe, pL, hpe⟩ : ∃ pe pL, takeE L x3 = (pe, pL) := ⟨_, _, rfl⟩
                    have HPE := Lib.hid hpe
                    clear hpe
                    have hdr : Below wa.heap.size wa wa.drew := ⟨rfl, rfl, rfl, Nat.le_refl _, fun _ _ => rfl⟩
                    have HD := Lib.hid (HQ.out.below hdr)
                    have HOK := Lib.hid HQ.out.ok
                    have HUQ := Lib.hid HQ.out.uq
                    have hB : (pe != pe) = false := by simp
                    clear hdr HQ c0
                    go_region_held3 (fun wy => wy.cell? ⟨X, 3, none⟩ = some (.int .i64 x3)) (exact HD.out.box.cell 3)
                      (first
                        | (go_at_call 40; refine (zq_take' HD.out (show k ≤ 800000000 by omega) x3 HPE.out).mono ?_; rintro e wn ⟨rfl, hN⟩; clear HD; have HD := Lib.hid hN; clear hN)
                        | (go_at_call 68; refine (dq_take' HD.out HOK.out HUQ.out x3 HPE.out).mono ?_; rintro e wn ⟨rfl, hN⟩; clear HD; have HD := Lib.hid hN; clear hN))
                    go_wp2
                    go_meet
                    exact ⟨k + 1000, q, pL, Rp, cr, nx, _, _, S, rfl, rfl, rfl, Lib.hid ⟨HD.out, by have := HK.out.1; omega, HK.out.2.1.mono (by omega), by have := HK.out.2.2; omega⟩⟩
                  · by_cases h4 : x0 = 4
                    · subst h4
                      obtain ⟨pe, pL, hpe⟩ : ∃ pe pL, reE L x1 (pl.take 40) = (pe, pL) := ⟨_, _, rfl⟩
                      have HPE := Lib.hid hpe
                      clear hpe
                      rcases HP.out with ⟨hp0, a0, d0, hv0, hac⟩ | ⟨pb, po, pc, hv0, hlc, hpb, hcell⟩
                      · subst hp0
                        have HL4 := Lib.hid (show (([] : List Int).take 40).length ≤ 40 by simp)
                        injection hv0 with hv1 _ hv3
                        subst hv1 hv3
                        have HT1 := Lib.hid (show Ints w w.heap.size (.slice vx 0 vc) (([] : List Int).take 40) from .inl ⟨rfl, vx, vc, rfl, hac⟩)
                        have hl0 : ([] : List Int).length = 0 := rfl
                        rw [hl0] at c4
                        cases vx with
                        | none =>
                          obtain rfl : vc = 0 := hac rfl
                          go_upto_region 26 with fail
                          have hdr : Below wa.heap.size wa wa.drew := ⟨rfl, rfl, rfl, Nat.le_refl _, fun _ _ => rfl⟩
                          have HD := Lib.hid (HQ.out.below hdr)
                          have HOK := Lib.hid HQ.out.ok
                          have hB : (pe != pe) = false := by simp
                          clear hdr HQ
                          go_region_held3 (fun wy => wy.cell? ⟨X, 1, none⟩ = some (.int .i64 x1)) (exact HD.out.box.cell 1)
                            (first
                              | (go_at_call 63; refine (zq_re' HD.out (show k ≤ 800000000 by omega) x1 _ (([] : List Int).take 40) HT1.out HPE.out).mono ?_; rintro e wn ⟨rfl, hN⟩; clear HD; have HD := Lib.hid hN; clear hN)
                              | (go_at_call 69; refine (dq_re' HD.out HOK.out x1 _ (([] : List Int).take 40) HL4.out HT1.out HPE.out).mono ?_; rintro e wn ⟨rfl, hN⟩; clear HD; have HD := Lib.hid hN; clear hN))
                          go_wp2
                          go_meet
                          exact ⟨k + 1000, q, pL, Rp, cr, nx, _, _, S, rfl, rfl, rfl, Lib.hid ⟨HD.out, by have := HK.out.1; omega, HK.out.2.1.mono (by omega), by have := HK.out.2.2; omega⟩⟩
                        | some ad =>
                          clear hac
                          go_upto_region 26 with fail
                          have hdr : Below wa.heap.size wa wa.drew := ⟨rfl, rfl, rfl, Nat.le_refl _, fun _ _ => rfl⟩
                          have HD := Lib.hid (HQ.out.below hdr)
                          have HOK := Lib.hid HQ.out.ok
                          have hB : (pe != pe) = false := by simp
                          clear hdr HQ
                          go_region_held3 (fun wy => wy.cell? ⟨X, 1, none⟩ = some (.int .i64 x1)) (exact HD.out.box.cell 1)
                            (first
                              | (go_at_call 63; refine (zq_re' HD.out (show k ≤ 800000000 by omega) x1 _ (([] : List Int).take 40) HT1.out HPE.out).mono ?_; rintro e wn ⟨rfl, hN⟩; clear HD; have HD := Lib.hid hN; clear hN)
                              | (go_at_call 69; refine (dq_re' HD.out HOK.out x1 _ (([] : List Int).take 40) HL4.out HT1.out HPE.out).mono ?_; rintro e wn ⟨rfl, hN⟩; clear HD; have HD := Lib.hid hN; clear hN))
                          go_wp2
                          go_meet
                          exact ⟨k + 1000, q, pL, Rp, cr, nx, _, _, S, rfl, rfl, rfl, Lib.hid ⟨HD.out, by have := HK.out.1; omega, HK.out.2.1.mono (by omega), by have := HK.out.2.2; omega⟩⟩
                      · injection hv0 with hv1 _ hv3
                        subst hv1 hv3
                        obtain ⟨m, hm⟩ : ∃ m, pl.length = m := ⟨_, rfl⟩
                        have HT : Hid (∀ n', n' = min m 40 → Ints w w.heap.size (.slice (some ⟨pb, po, none⟩) n' vc) (pl.take 40)) := Lib.hid fun n' hn' => .inr ⟨pb, po, vc, by rw [hn', List.length_take, hm, Nat.min_comm], by rw [List.length_take]; omega, hpb, fun j hj => by
                          rw [List.length_take] at hj
                          rw [getD_take_lt pl (by omega)]
                          exact hcell j (by omega)⟩
                        have HL4 := Lib.hid (show (pl.take 40).length ≤ 40 by rw [List.length_take]; omega)
                        rw [hm] at c4 hlc
                        have m0 : (0 : Int) ≤ m := by omega
                        have m1 : (m : Int) ≤ vc := by omega
                        clear hcell hpb hm
                        by_cases h40 : m ≤ 40
                        · have HT1 := Lib.hid (HT.out m (by omega))
                          have h41 : (m : Int) ≤ 40 := by omega
                          clear HT h40
                          go_upto_region 26 with fail
                          have hdr : Below wa.heap.size wa wa.drew := ⟨rfl, rfl, rfl, Nat.le_refl _, fun _ _ => rfl⟩
                          have HD := Lib.hid (HQ.out.below hdr)
                          have HOK := Lib.hid HQ.out.ok
                          have hB : (pe != pe) = false := by simp
                          clear hdr HQ
                          go_region_held3 (fun wy => wy.cell? ⟨X, 1, none⟩ = some (.int .i64 x1)) (exact HD.out.box.cell 1)
                            (first
                              | (go_at_call 63; refine (zq_re' HD.out (show k ≤ 800000000 by omega) x1 _ (pl.take 40) HT1.out HPE.out).mono ?_; rintro e wn ⟨rfl, hN⟩; clear HD; have HD := Lib.hid hN; clear hN)
                              | (go_at_call 69; refine (dq_re' HD.out HOK.out x1 _ (pl.take 40) HL4.out HT1.out HPE.out).mono ?_; rintro e wn ⟨rfl, hN⟩; clear HD; have HD := Lib.hid hN; clear hN))
                          go_wp2
                          go_meet
                          exact ⟨k + 1000, q, pL, Rp, cr, nx, _, _, S, rfl, rfl, rfl, Lib.hid ⟨HD.out, by have := HK.out.1; omega, HK.out.2.1.mono (by omega), by have := HK.out.2.2; omega⟩⟩
                        · have HT1 := Lib.hid (HT.out 40 (by omega))
                          have h41 : (40 : Int) < m := by omega
                          have h42 : (40 : Int) ≤ vc := by omega
                          clear HT h40
                          go_upto_region 26 with fail
                          have hdr : Below wa.heap.size wa wa.drew := ⟨rfl, rfl, rfl, Nat.le_refl _, fun _ _ => rfl⟩
                          have HD := Lib.hid (HQ.out.below hdr)
                          have HOK := Lib.hid HQ.out.ok
                          have hB : (pe != pe) = false := by simp
                          clear hdr HQ
                          go_region_held3 (fun wy => wy.cell? ⟨X, 1, none⟩ = some (.int .i64 x1)) (exact HD.out.box.cell 1)
                            (first
                              | (go_at_call 63; refine (zq_re' HD.out (show k ≤ 800000000 by omega) x1 _ (pl.take 40) HT1.out HPE.out).mono ?_; rintro e wn ⟨rfl, hN⟩; clear HD; have HD := Lib.hid hN; clear hN)
                              | (go_at_call 69; refine (dq_re' HD.out HOK.out x1 _ (pl.take 40) HL4.out HT1.out HPE.out).mono ?_; rintro e wn ⟨rfl, hN⟩; clear HD; have HD := Lib.hid hN; clear hN))
                          go_wp2
                          go_meet
                          exact ⟨k + 1000, q, pL, Rp, cr, nx, _, _, S, rfl, rfl, rfl, Lib.hid ⟨HD.out, by have := HK.out.1; omega, HK.out.2.1.mono (by omega), by have := HK.out.2.2; omega⟩⟩
                    · by_cases h5 : x0 = 5
                      · subst h5
                        have hk5 : (zks S).length ≤ 80 := by rw [zks_len]; exact hsl
                        have HOK0 := Lib.hid HQ.out.ok
                        clear c0 c1 c2 c3 c4
                        go_upto_region 29 with fail
                        go_wp2_with fail
                        refine (zq_mark HQ.out).mono ?_
                        rintro e w' ⟨q', mk, rfl, hM, hN, hh, rfl⟩
                        have HM := Lib.hid (And.intro hM hh)
                        have HQ2 := Lib.hid hN
                        clear hM hN hh HQ
                        go_upto_region 30 with (at_builtin; refine wpList_append_ints (base := w.heap.size) rfl (.tmp 139) (.tmp 142) rfl rfl (show IRow _ w.heap.size (.slice kx S.length kc) (zks S) from (HQ2.out.below (fb_alloc (Below.refl _ _) (.cells #[.int .i64 mk] 3))).marks) rfl (SInts.own (one_ownz wa mk)) (by simp; omega) (by have := HQ2.out.bel.size; simp; omega) ?_; intro v5 w5 hr5 hg5 hf5; have HQ5 := Lib.hid (ZQ.app5 (HQ2.out.below (fb_alloc (Below.refl _ _) (.cells #[.int .i64 mk] 3))) hr5 hg5 hf5); clear hr5 hg5 hf5)
                        clear HQ2
                        go_wp2_with fail
                        refine (dq_copy HQ5.out HOK0.out).mono ?_
                        rintro e w6 ⟨A6, rfl, hb6, col6, hP6, hD6⟩
                        have H6 := Lib.hid (And.intro hP6 hD6)
                        have hsv6 : (w6.alloc (.cells #[.pointer (some ⟨A6, 0, none⟩)] 83)).ownsRow w.heap.size 83 1 (.slice sx S.length sc) S.length (zptrs (zps S)) := by
                          have := (hP6.made 0 (fb_alloc (Below.refl _ _) (.cells #[.pointer (some ⟨A6, 0, none⟩)] 83))).sv (by decide)
                          rw [show (zps S).length = S.length from zps_len S] at this
                          exact this.1
                        have hw6 : w.heap.size ≤ w6.heap.size := hP6.bel.size
                        clear hb6 hP6 hD6 HQ5
                        go_wp2_with (at_builtin; refine wpList_append_fresh _ rfl (.tmp 144) (.tmp 147) 85 rfl w.heap.size 83 ip (.pointer none) 1 8 Try.underlying85 hpi hp0 hp1 hp2 rfl (by decide) (.slice sx S.length sc) S.length (zptrs (zps S)) rfl hsv6 ⟨w6.heap.size, 0, none⟩ 1 1 [.pointer (some ⟨A6, 0, none⟩)] rfl rfl (cell_one_new _ _ _) (by simp [Value.oneCell']) (by unfold maxLen; omega) (by omega) (by simp; omega) ?_; intro v7 wn hr7 hg7 hf7; have HQ7 := Lib.hid (ZP.app6 (H6.out.1.made 0 (fb_alloc (Below.refl _ _) (.cells #[.pointer (some ⟨A6, 0, none⟩)] 83))) (H6.out.2.made 0 (fb_alloc (Below.refl _ _) _)) (by rw [show (zps S).length = S.length from zps_len S]; exact hr7) hg7 hf7); clear hr7 hg7 hf7)
                        have HQ := Lib.hid (show ZQ w wn b ⟨0, zn, sn⟩ ⟨k, q', L, Rp, cr, nx + 1, L, v5, zks (⟨q', L, mk, A6, nx⟩ :: S), v7, zps (⟨q', L, mk, A6, nx⟩ :: S), X, _⟩ from by rw [zks_push, zps_push]; exact HQ7.out)
                        have HCH := Lib.hid (show ZChn ⟨0, zn, sn⟩ k q' (⟨q', L, mk, A6, nx⟩ :: S) from ⟨Hist.refl _, HM.out.1, HK.out.2.1.hist HM.out.2⟩)
                        clear HQ7 H6 hsv6
                        go_wp2
                        go_meet
                        exact ⟨k, q', L, Rp, cr, nx + 1, _, _, ⟨q', L, mk, A6, nx⟩ :: S, rfl, rfl, rfl, Lib.hid ⟨HQ.out, by have := HK.out.1; omega, HCH.out, by have := HK.out.2.2; simp; omega⟩⟩
                      · by_cases h6 : x0 = 6
                        · subst h6
                          cases S with
                          | nil =>
                            have HQ6 := HQ
                            clear HQ c0 c1 c2 c3 c4
                            go_wp2
                            go_meet
                            exact ⟨k, q, L, Rp, cr, nx, _, _, [], rfl, rfl, rfl, Lib.hid ⟨HQ6.out, by have := HK.out.1; omega, HK.out.2.1, by simp⟩⟩
                          | cons e r =>
                            obtain ⟨qe, Le, xe, pe, ce⟩ := e
                            have hch := HK.out.2.1
                            have HCH := Lib.hid (show ZLMark ⟨0, zn, sn⟩ k qe Le xe ∧ ZChn ⟨0, zn, sn⟩ k qe r from ⟨hch.2.1, hch.2.2⟩)
                            have HQ1 := Lib.hid (HQ.out.hist hch.1)
                            obtain ⟨m, hm⟩ : ∃ m, r.length = m := ⟨_, rfl⟩
                            have hlen : (⟨qe, Le, xe, pe, ce⟩ :: r : List ZEM).length = m + 1 := by rw [List.length_cons, hm]
                            rw [hlen] at HQ1 hsl ⊢
                            have hks : zks (⟨qe, Le, xe, pe, ce⟩ :: r) = zks r ++ [xe] := zks_push _ _
                            have hps : zps (⟨qe, Le, xe, pe, ce⟩ :: r) = zps r ++ [⟨pe, ce, Le⟩] := zps_push _ _
                            have hkl : (zks r).length = m := by rw [zks_len, hm]
                            have hpl : (zps r).length = m := by rw [zps_len, hm]
                            have hmk := HQ1.out.marks
                            have hsd := HQ1.out.saved
                            rw [show (zps (⟨qe, Le, xe, pe, ce⟩ :: r)).length = m + 1 by rw [hps]; simp [hpl]] at hsd
                            have hmk1 : World.ownsRow wa w.heap.size 3 1 (.slice kx (m + 1) kc) (m + 1) ((zks (⟨qe, Le, xe, pe, ce⟩ :: r)).map (Value.int .i64)) := by
                              have := hmk; unfold IRow at this; rw [show (zks (⟨qe, Le, xe, pe, ce⟩ :: r)).length = m + 1 by rw [hks]; simp [hkl]] at this; exact this
                            obtain ⟨Gk, ck, hGk, hcap5⟩ := own_formc hmk1 (by omega)
                            injection hGk with hG1 _ hG3
                            subst hG1 hG3
                            obtain ⟨Gs, cs', hGs, hcap6⟩ := own_formc hsd (by omega)
                            injection hGs with hG1 _ hG3
                            subst hG1 hG3
                            have cmk : wa.cell? ⟨Gk, m, none⟩ = some (.int .i64 xe) := by
                              have := IRow.cell hmk (j := m) (by rw [hks]; simp [hkl])
                              rw [hks, show (zks r ++ [xe]).getD m 0 = xe by simp [List.getD_eq_getElem?_getD, hkl]] at this
                              exact this
                            have HPS := Lib.hid (And.intro hks (And.intro hps (And.intro hkl (And.intro hpl hm))))
                            have m0 : (0 : Int) ≤ m := by omega
                            have m1 : (m : Int) ≤ 80 := by omega
                            clear hch hlen hks hps hkl hpl hmk hmk1 hsd hm HQ c0 c1 c2 c3 c4
                            go_wp2_with fail
                            refine (zq_back HQ1.out (show k ≤ 800000000 by omega) HCH.out.1).mono ?_
                            rintro e w6 ⟨rfl, hN⟩
                            have hsd := hN.saved
                            dsimp only at hsd
                            rw [HPS.out.2.1, show (zps r ++ [(⟨pe, ce, Le⟩ : ZE1)]).length = m + 1 by simp [HPS.out.2.2.2.1]] at hsd
                            have csv : w6.cell? ⟨Gs, m, none⟩ = some (.pointer (some ⟨pe, 0, none⟩)) := by
                              rw [World.ownsRow.cellAt hsd m (by omega)]
                              simp [zptrs, HPS.out.2.2.2.1]
                            have h1 := hN.cut5 (m := m) (by show (zks _).length = m + 1; rw [HPS.out.1]; simp [HPS.out.2.2.1]) rfl
                            dsimp only at h1
                            rw [show (zks (⟨qe, Le, xe, pe, ce⟩ :: r)).take m = zks r from by rw [HPS.out.1]; exact List.take_left' HPS.out.2.2.1] at h1
                            have h2 := ZQ.cut6 (ps := zps r) (p := ⟨pe, ce, Le⟩) (B := Gs) (cap := sc) h1 HPS.out.2.1 (by rw [HPS.out.2.2.2.1])
                            dsimp only at h2
                            rw [HPS.out.2.2.2.1] at h2
                            have HQ7 := Lib.hid h2
                            have HRL := Lib.hid (show r.length ≤ i by have := HK.out.2.2; simp at this; omega)
                            clear hN hsd h1 h2 HQ1 HPS
                            go_wp2
                            go_meet
                            exact ⟨k, qe, Le, pe, ce, nx, _, _, r, rfl, rfl, rfl, Lib.hid ⟨HQ7.out, by have := HK.out.1; omega, HCH.out.2, by have := HRL.out; omega⟩⟩
                        · skip
                          go_upto_region 12 with fail
                          obtain ⟨ra, re, hra⟩ : ∃ ra re, zat L x1 x2 = (ra, re) := ⟨_, _, rfl⟩
                          have HOK := Lib.hid HQ.out.ok
                          go_wp2_with fail
                          have hz := zq_at HQ.out x1 x2
                          rw [show zat _ x1 x2 = (ra, re) from hra] at hz
                          refine hz.mono ?_
                          rintro e wn ⟨rfl, hb⟩
                          have HQ1 := Lib.hid (HQ.out.below hb)
                          have n1 : wn.cell? ⟨X, 1, none⟩ = some (.int .i64 x1) := HQ1.out.box.cell 1
                          have n2 : wn.cell? ⟨X, 2, none⟩ = some (.int .i64 x2) := HQ1.out.box.cell 2
                          clear hb hz HQ c0 c1 c2 c3 c4
                          go_wp2_with fail
                          have hd := dq_at HQ1.out HOK.out x1 x2
                          rw [show zat _ x1 x2 = (ra, re) from hra] at hd
                          refine hd.mono ?_
                          rintro e wn' ⟨rfl, rfl⟩
                          have hB1 : (ra != ra) = false := by simp
                          have hB2 : (re != re) = false := by simp
                          clear hd hra
                          go_wp2
                          go_meet
                          exact ⟨k, q, L, Rp, cr, nx, _, _, S, rfl, rfl, rfl, Lib.hid ⟨HQ1.out, by have := HK.out.1; omega, HK.out.2.1, by have := HK.out.2.2; omega⟩⟩
          case rest =>
            obtain ⟨k', q', L', Rp', cr', nx', kv', sv', S', rfl, rfl, rfl, hX⟩ := hcut
            have HQ' := Lib.hid hX.out.1
            have HK' := Lib.hid hX.out.2
            clear hX c0 c1 c2 c3 c4 HK HQ
            go_wp2_with fail
            refine (zsame_any HQ'.out rfl).mono ?_
            rintro e w8 ⟨rfl, hb8⟩
            have HQ8 := Lib.hid (HQ'.out.below hb8)
            clear hb8 HQ'
            go_wp2
            go_roundw
            case rel => exact ⟨i + 1, k', q', L', Rp', cr', nx', _, _, S', _, _, by omega, by omega, by go_num, rfl, rfl, rfl, Lib.hid ⟨HQ8.out.rest, HK'.out⟩⟩
            case measure => simp [intOf]; omega
        · obtain rfl : i = 80 := by omega
          have HB := Lib.hid hst.out.1.bel
          clear hst HS
          go_wp2_with fail
          refine (zworks_any _).mono ?_
          rintro e w5 ⟨rfl, hc⟩
          have HC := Lib.hid (fb_call HB.out hc)
          clear hc
          go_wp2
          go_ret
          exact ⟨rfl, HC.out⟩
      · obtain rfl : len = i := by omega
        have HB := Lib.hid hst.out.1.bel
        clear hst HS hlt
        go_wp2_with fail
        refine (zworks_any _).mono ?_
        rintro e w5 ⟨rfl, hc⟩
        have HC := Lib.hid (fb_call HB.out hc)
        clear hc
        go_wp2
        go_ret
        exact ⟨rfl, HC.out⟩
end Go.Proofs.Ytfkkkndigkchcaa
