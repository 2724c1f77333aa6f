/- How slices of the law's structs of bytes and a bool that came in are opened. No condition. The walk of IndexBack. No condition but the library's table. IndexBack: behind a Back all is as it was, whatever was filled, emptied and touched since. No condition. -/
import Derived.Test.YtcgadmeagbcbnaaDoorIdxDone
import Derived.Test.YtcgadmeagbcbnaaDoorOpenT
import Derived.Test.YtcgadmeagbcbnaaDoorIdxTab
import Derived.Test.YtcgadmeagbcbnaaDoorTie
import Derived.Test.YtcgadmeagbcbnaaDoorCards
import Derived.SevenTiedAt
namespace Go.Proofs.YtcgadmeagbcbnaaDoor
section
open Go.ChangeShapes Go.WideShapes Go.ChangeAt Go.RowKit Go.Deep

theorem u8_nat {x : Int} (h : (Lit.int .u8 x).wf = true) : ∃ n : Nat, x = n ∧ n < 256 := by
  simp [Lit.wf, IntKind.min, IntKind.max, IntKind.signed, IntKind.bits] at h
  exact ⟨x.toNat, by omega, by omega⟩
theorem byts_of {W : World} {a : Option Addr} {len cap : Nat} {F : Nat → Int} (h : Nums W W.heap.size .u8 (.slice a len cap) len F) : Byts W a len (fun i => (F i).toNat) := by
  obtain ⟨a', c', e, _, _, h⟩ := h
  injection e with e1 _ _
  subst e1
  rcases h with h | ⟨b, o, rfl, hb, hc⟩
  · exact .inl h
  · refine .inr ⟨b, o, rfl, hb, fun i hi => ?_⟩
    obtain ⟨h1, h2⟩ := hc i hi
    obtain ⟨n, hn, hl⟩ := u8_nat h2
    rw [hn] at h1
    have e : (F i).toNat = n := by rw [hn, Int.toNat_natCast]
    show (F i).toNat < 256 ∧ W.cell? _ = some (.int .u8 ((F i).toNat : Nat))
    rw [e]
    exact ⟨hl, h1⟩
section
variable {H : Type} {enc : TypeId × Value → H} {W : World} {base : Nat} {held : Bool}
set_option maxRecDepth 100000 in
theorem open_puts {r : Reach} {b0 : Nat} {v : Value} {d : DataW H} {p : List MemPlace}
    (hv : Value.okWide Tryd.prog W r b0 55 v) (h : DataW.Trod enc Tryd.prog W base (fun _ => true) held 55 v d p) :
    ∃ (a : Option Addr) (len cap : Nat) (F : Nat → Nat → Nat) (K : Nat → Bool), v = .slice a len cap ∧ len ≤ cap ∧ cap ≤ maxLen ∧ Puts W a len F K := by
  obtain ⟨a0, len, cap, rfl⟩ := okWide_slice Tryd.underlying55 hv
  obtain ⟨fuel, hf⟩ := h
  rcases open_slice_fields Tryd.underlying55 Tryd.underlying58 (by kernel_rfl) (by kernel_rfl) hf with ⟨hcs, _⟩ | ⟨a, len', cap', m, hcs, _, hl, hm, hmm, hx⟩
  · simp [Value.cells] at hcs
    obtain ⟨rfl, rfl, rfl⟩ := hcs
    exact ⟨none, 0, 0, fun _ _ => 0, fun _ => false, rfl, Nat.le_refl _, Nat.zero_le _, .inl rfl⟩
  · simp [Value.cells] at hcs
    obtain ⟨rfl, rfl, rfl⟩ := hcs
    have each : ∀ i, i < len → ∃ (x y : Nat) (z : Bool), (x < 256 ∧ W.cell? (a.add (i * 3 + 0)) = some (.int .u8 (x : Int))) ∧ (y < 256 ∧ W.cell? (a.add (i * 3 + 1)) = some (.int .u8 (y : Int))) ∧ W.cell? (a.add (i * 3 + 2)) = some (.bool z) := fun i hi => by
      obtain ⟨n, hn⟩ := hx i (by rw [hmm]; simp; omega)
      obtain ⟨u0, y0, hc0, hy0⟩ := hn 0 _ rfl
      obtain ⟨x0, e0, _, hw0⟩ := DataW.trod_int Tryd.underlying5 hy0
      obtain ⟨n0, rfl, hl0⟩ := u8_nat hw0
      obtain ⟨u1, y1, hc1, hy1⟩ := hn 1 _ rfl
      obtain ⟨x1, e1, _, hw1⟩ := DataW.trod_int Tryd.underlying5 hy1
      obtain ⟨n1, rfl, hl1⟩ := u8_nat hw1
      obtain ⟨u2, y2, hc2, hy2⟩ := hn 2 _ rfl
      obtain ⟨x2, e2, _⟩ := DataW.trod_bool Tryd.underlying4 hy2
      rw [show u0 = .int .u8 n0 by simpa using e0] at hc0
      rw [show u1 = .int .u8 n1 by simpa using e1] at hc1
      rw [show u2 = .bool x2 by simpa using e2] at hc2
      exact ⟨n0, n1, x2, ⟨hl0, hc0⟩, ⟨hl1, hc1⟩, hc2⟩
    obtain ⟨F0, F1, K, hF⟩ : ∃ (F0 F1 : Nat → Nat) (K : Nat → Bool), ∀ i, i < len → (F0 i < 256 ∧ W.cell? (a.add (i * 3 + 0)) = some (.int .u8 (F0 i : Int))) ∧ (F1 i < 256 ∧ W.cell? (a.add (i * 3 + 1)) = some (.int .u8 (F1 i : Int))) ∧ W.cell? (a.add (i * 3 + 2)) = some (.bool (K i)) := by
      refine ⟨fun i => if hh : i < len then Classical.choose (each i hh) else 0, fun i => if hh : i < len then Classical.choose (Classical.choose_spec (each i hh)) else 0,
        fun i => if hh : i < len then Classical.choose (Classical.choose_spec (Classical.choose_spec (each i hh))) else false, fun i hi => ?_⟩
      simpa [hi] using Classical.choose_spec (Classical.choose_spec (Classical.choose_spec (each i hi)))
    refine ⟨some a, len, cap, fun i j => if j = 0 then F0 i else F1 i, K, rfl, hl, hm, ?_⟩
    by_cases hl0 : len = 0
    · exact .inl hl0
    · obtain ⟨bk, off, spot⟩ := a
      have c0 := (hF 0 (by omega)).1.2
      have hspot : spot = none := by simpa [Addr.add] using World.cell?_spot c0
      subst hspot
      have hbk := World.block_lt_of_cell? _ _ c0
      rw [add_plain] at hbk
      refine .inr ⟨bk, off, rfl, hbk, fun i hi => ?_⟩
      obtain ⟨⟨g0, h0⟩, ⟨g1, h1⟩, h2⟩ := hF i hi
      rw [add_plain] at h0 h1 h2
      exact ⟨⟨g0, h0⟩, ⟨g1, by rw [Nat.add_assoc]; exact h1⟩, by rw [Nat.add_assoc]; exact h2⟩
end
end
section
open Go.RowKit
attribute [local irreducible] Calls

set_option maxRecDepth 100000 in
set_option maxHeartbeats 8000000 in
theorem indexBack_walk (a1 : Option Addr) (n1 c1 : Nat) (F1 : Nat → Nat → Nat) (K1 : Nat → Bool) (a2 : Option Addr) (n2 c2 : Nat) (F2 : Nat → Nat → Nat) (K2 : Nat → Bool) (a3 : Option Addr) (n3 c3 : Nat) (F3 : Nat → Nat) (w : World)
    (h1 : Puts w a1 n1 F1 K1) (hn1 : n1 ≤ 9223372036854775807) (h2 : Puts w a2 n2 F2 K2) (hn2 : n2 ≤ 9223372036854775807) (h3 : Byts w a3 n3 F3) (hn3 : n3 ≤ 9223372036854775807) (hT : TabAt w) (h0 : 0 < w.heap.size) :
    Calls Tryd.prog 5 #[.slice a1 n1 c1, .slice a2 n2 c2, .slice a3 n3 c3] w fun e w' => e = .returned (.bool true) ∧ Below w.heap.size w w' := by
  have HTT := Lib.hid (And.intro hT h0)
  have HI := Lib.hid (And.intro h1 (And.intro h2 h3))
  clear hT h0 h1 h2 h3
  go_enter Tryd.func5, Tryd.ntmps5
  go_wp2_with fail
  refine (works_any w HTT.out.1 HTT.out.2).mono ?_
  rintro e wz_ ⟨rfl, hbz_⟩
  have HBZ := Lib.hid hbz_
  clear hbz_
  go_wp2_with fail
  refine (tr_new wz_).mono ?_
  rintro e wa_ ⟨rfl, hT0_⟩
  have HT1 := Lib.hid (hT0_ w HBZ.out)
  obtain ⟨T, hTn_⟩ : ∃ T, wz_.heap.size = T := ⟨_, rfl⟩
  have HTN := Lib.hid hTn_
  rw [hTn_] at HT1 ⊢
  clear hT0_ hTn_
  go_wp2_with fail
  refine (three_any wa_).mono ?_
  rintro e wb_ ⟨u_, vs_, rfl, hp_⟩
  have HP_ := Lib.hid hp_
  clear hp_
  go_wp2_with fail
  refine (inew_any (w0 := w) (col := fun j => if j < w.heap.size then 0 else 1) (c := 1) (HT1.out.1.below HP_.out.bel) (fun j hj => if_neg (Nat.not_lt.2 (HT1.out.1.base hj).1)) (by simp) (by simp) HP_.out.cards abs3_len abs3_five abs3_wf (fun _ => True) trivial (fun _ _ _ _ _ _ => trivial)).mono ?_
  rintro e wc_ ⟨b, q, rfl, hbT_, hba_, _, _, hN_⟩
  have HBT := Lib.hid hbT_
  have HA := Lib.hid hba_
  obtain ⟨M0_, hM0_⟩ : ∃ m, M0 = m := ⟨_, rfl⟩
  have hn0_ : IS w wc_ (recol wb_.heap.size (fun j => if j < w.heap.size then 0 else 1) 1) 1 b 100 q M0 := hN_.1.mono (n := 100) (by simp)
  have hg0_ := good_zero b.abs
  rw [hM0_] at hn0_ hg0_
  have HS := Lib.hid hn0_
  have HG := Lib.hid hg0_
  have HM0_ := Lib.hid hM0_
  clear hbT_ hba_ hN_ hM0_ HT1 HP_ hn0_ hg0_
  have HX := Lib.hid (show XB w wc_ b 100 q M0_ [] from ⟨HG.out, _, HS.out, fun x hx => by cases hx⟩)
  clear HS HG HA HM0_
  go_wp2_with fail
  refine (done_any HX.out (by omega) a1 n1 c1 F1 K1 HI.out.1 hn1 a3 n3 c3 F3 HI.out.2.2 hn3).mono ?_
  rintro e wd_ ⟨rfl, M1, hx_⟩
  have HX1 := Lib.hid hx_
  clear hx_ HX
  obtain ⟨x0, x1, x2, x3, hx, _⟩ := wf_form (wf_having HX1.out.good 3 2)
  obtain ⟨y0, y1, y2, y3, hy, _⟩ := wf_form (wf_having HX1.out.good 4 0)
  obtain ⟨z0, z1, z2, z3, hz, _⟩ := wf_form (HX1.out.good.wf 0 (by omega))
  have HF := Lib.hid (And.intro hx (And.intro hy hz))
  clear hx hy hz
  have hc_ := xb_having HX1.out 3 2 (wf_lit (by decide))
  rw [HF.out.1, show svL [x0, x1, x2, x3] = .agg #[.int .u64 x0, .int .u64 x1, .int .u64 x2, .int .u64 x3] from rfl] at hc_
  go_wp2_with fail
  refine hc_.mono ?_
  rintro e we_ ⟨rfl, hb_⟩
  have HX2 := Lib.hid (HX1.out.below hb_)
  clear hb_ hc_ HX1
  have hc_ := xb_having HX2.out 4 0 (wf_lit (by decide))
  rw [HF.out.2.1, show svL [y0, y1, y2, y3] = .agg #[.int .u64 y0, .int .u64 y1, .int .u64 y2, .int .u64 y3] from rfl] at hc_
  go_wp2_with fail
  refine hc_.mono ?_
  rintro e wf_ ⟨rfl, hb_⟩
  have HX3 := Lib.hid (HX2.out.below hb_)
  clear hb_ hc_ HX2
  have hc_ := xb_touched HX3.out
  rw [HF.out.2.2, show svL [z0, z1, z2, z3] = .agg #[.int .u64 z0, .int .u64 z1, .int .u64 z2, .int .u64 z3] from rfl] at hc_
  go_wp2_with fail
  refine hc_.mono ?_
  rintro e wg_ ⟨rfl, hb_⟩
  have HX4 := Lib.hid (HX3.out.below hb_)
  clear hb_ hc_ HX3
  have hbx := HX4.out.bel.size
  obtain ⟨B1, hB1⟩ : ∃ B, wg_.heap.size = B := ⟨_, rfl⟩
  have HXb := Lib.hid (((HX4.out.box 48 (uc [x0, x1, x2, x3])).box 48 (uc [y0, y1, y2, y3])).box 48 (uc [z0, z1, z2, z3]))
  simp only [World.size_alloc, hB1] at HXb
  simp only [uc, List.map_cons, List.map_nil] at HXb
  clear HX4 hbx
  go_upto_region 9 with fail
  generalize World.alloc _ _ = wh_ at HXb ⊢
  clear hB1
  obtain ⟨B2, hB2⟩ : ∃ B, B1 + 1 = B := ⟨_, rfl⟩
  obtain ⟨B3, hB3⟩ : ∃ B, B2 + 1 = B := ⟨_, rfl⟩
  rw [hB2, hB3] at HXb ⊢
  clear hB2 hB3
  have hc_ := xb_mark HXb.out
  rw [HBT.out] at hc_
  go_wp2_with fail
  refine hc_.mono ?_
  rintro e wi_ ⟨q1, mk, rfl, hM_, hS_, _, rfl⟩
  have HMK := Lib.hid hM_
  have HXm := Lib.hid hS_
  have HGM := Lib.hid HXm.out.good
  clear hM_ hS_ hc_ HXb
  go_wp2
  go_loopw [13] (fun x wr => ∃ (j : Nat) (M : IM), j ≤ n3 ∧ j ≤ 60 ∧ x = .int .i64 j ∧ Hid (XB w wr b (31000 + 200 * j) q1 M [(B3, 48, uc [z0, z1, z2, z3]), (B2, 48, uc [y0, y1, y2, y3]), (B1, 48, uc [x0, x1, x2, x3])])) (fun x _ => n3 - (intOf x).toNat)
  case atStart => exact ⟨0, M1, Nat.zero_le _, by omega, rfl, Lib.hid (HXm.out.mono (by omega))⟩
  case round =>
    obtain ⟨j, M2, hj, hj60, rfl, hst⟩ := hrel
    clear HXm
    by_cases hgo : j < n3 ∧ j < 60
    · obtain ⟨hjt, hj6⟩ := hgo
      obtain ⟨B, o, rfl, hB, hc⟩ := HI.out.2.2.resolve_left (by omega)
      obtain ⟨s256, hc0⟩ := hc j hjt
      obtain ⟨s, hs⟩ : ∃ s, F3 j = s := ⟨_, rfl⟩
      rw [hs] at hc0 s256
      have d0 : wr.cell? ⟨B, o + j, none⟩ = some (.int .u8 (s : Int)) := (hst.out.bel.cell (p := ⟨B, o + j, none⟩) hB).trans hc0
      have HC := Lib.hid (xb_clear hst.out (by omega) (s : Int))
      have i00 : (0 : Int) ≤ j := by omega
      have i01 : (j : Int) < n3 := by omega
      have i02 : (j : Int) < 60 := by omega
      have s0_ : (0 : Int) ≤ s := by omega
      have s1_ : (s : Int) ≤ 255 := by omega
      clear hst hc hc0 hs s256 hB
      go_wp2_with (go_at_call 15; refine HC.out.mono ?_; rintro e w1 ⟨rfl, hN⟩; have HN := Lib.hid hN; clear hN)
      go_roundw
      case rel => exact ⟨j + 1, _, by omega, by omega, by go_num, Lib.hid (HN.out.mono (by omega))⟩
      case measure => simp [intOf]; omega
    · have HN := Lib.hid (hst.out.mono (n := 50000) (by omega))
      have hend : j = n3 ∨ (j = 60 ∧ j < n3) := by omega
      clear hst hgo
      rcases hend with rfl | ⟨rfl, hlt2⟩
      all_goals
        go_wp2_with fail
        refine (done_any HN.out (by omega) a2 n2 c2 F2 K2 HI.out.2.1 hn2 none 0 0 (fun _ => 0) (.inl rfl) (by omega)).mono ?_
        rintro e wj_ ⟨rfl, M3, hx_⟩
        have HX5 := Lib.hid hx_
        clear hx_ HN
        have hc_ := xb_back HX5.out (by omega) HMK.out HGM.out
        rw [HBT.out] at hc_
        go_wp2_with fail
        refine hc_.mono ?_
        rintro e wk_ ⟨rfl, hx_⟩
        have HX6 := Lib.hid hx_
        clear hx_ hc_ HX5
        go_upto_region 17 with fail
        have HX7 := Lib.hid (HX6.out.below (bel_drew (Below.refl _ _)))
        have HC32 := Lib.hid (show ∀ (W : World) (k : Nat), XB w W b k q1 M1 [(B3, 48, uc [z0, z1, z2, z3]), (B2, 48, uc [y0, y1, y2, y3]), (B1, 48, uc [x0, x1, x2, x3])] → Calls Tryd.prog 26 #[.pointer (some ⟨b.X, 0, none⟩), .int .i64 3, .int .i64 2] W fun e w' => e = .returned (.agg #[.int .u64 x0, .int .u64 x1, .int .u64 x2, .int .u64 x3]) ∧ Below W.heap.size W w' from fun W k h => by have := xb_having h 3 2 (wf_lit (by decide)); rw [HF.out.1] at this; exact this)
        have HC40 := Lib.hid (show ∀ (W : World) (k : Nat), XB w W b k q1 M1 [(B3, 48, uc [z0, z1, z2, z3]), (B2, 48, uc [y0, y1, y2, y3]), (B1, 48, uc [x0, x1, x2, x3])] → Calls Tryd.prog 26 #[.pointer (some ⟨b.X, 0, none⟩), .int .i64 4, .int .i64 0] W fun e w' => e = .returned (.agg #[.int .u64 y0, .int .u64 y1, .int .u64 y2, .int .u64 y3]) ∧ Below W.heap.size W w' from fun W k h => by have := xb_having h 4 0 (wf_lit (by decide)); rw [HF.out.2.1] at this; exact this)
        have HCT := Lib.hid (show ∀ (W : World) (k : Nat), XB w W b k q1 M1 [(B3, 48, uc [z0, z1, z2, z3]), (B2, 48, uc [y0, y1, y2, y3]), (B1, 48, uc [x0, x1, x2, x3])] → Calls Tryd.prog 23 #[.pointer (some ⟨b.X, 0, none⟩)] W fun e w' => e = .returned (.agg #[.int .u64 z0, .int .u64 z1, .int .u64 z2, .int .u64 z3]) ∧ Below W.heap.size W w' from fun W k h => by have := xb_touched h; rw [HF.out.2.2] at this; exact this)
        have HD := HX7
        clear HX6 HX7 HF
        go_region_held3 (fun wy => wy.cell? ⟨B1, 0, none⟩ = some (.int .u64 x0) ∧ wy.cell? ⟨B1, 1, none⟩ = some (.int .u64 x1) ∧ wy.cell? ⟨B1, 2, none⟩ = some (.int .u64 x2) ∧ wy.cell? ⟨B1, 3, none⟩ = some (.int .u64 x3) ∧ wy.cell? ⟨B2, 0, none⟩ = some (.int .u64 y0) ∧ wy.cell? ⟨B2, 1, none⟩ = some (.int .u64 y1) ∧ wy.cell? ⟨B2, 2, none⟩ = some (.int .u64 y2) ∧ wy.cell? ⟨B2, 3, none⟩ = some (.int .u64 y3) ∧ wy.cell? ⟨B3, 0, none⟩ = some (.int .u64 z0) ∧ wy.cell? ⟨B3, 1, none⟩ = some (.int .u64 z1) ∧ wy.cell? ⟨B3, 2, none⟩ = some (.int .u64 z2) ∧ wy.cell? ⟨B3, 3, none⟩ = some (.int .u64 z3))
          (exact ⟨(HD.out.at (.tail _ (.tail _ (.head _)))).cell 0, (HD.out.at (.tail _ (.tail _ (.head _)))).cell 1, (HD.out.at (.tail _ (.tail _ (.head _)))).cell 2, (HD.out.at (.tail _ (.tail _ (.head _)))).cell 3, (HD.out.at (.tail _ (.head _))).cell 0, (HD.out.at (.tail _ (.head _))).cell 1, (HD.out.at (.tail _ (.head _))).cell 2, (HD.out.at (.tail _ (.head _))).cell 3, (HD.out.at (.head _)).cell 0, (HD.out.at (.head _)).cell 1, (HD.out.at (.head _)).cell 2, (HD.out.at (.head _)).cell 3⟩)
          (first
            | (go_at_call 26; refine (HC32.out _ _ HD.out).mono ?_; rintro e wn ⟨rfl, hb_⟩; have HD2 := Lib.hid (HD.out.below hb_); clear HD hb_; have HD := HD2; clear HD2)
            | (go_at_call 26; refine (HC40.out _ _ HD.out).mono ?_; rintro e wn ⟨rfl, hb_⟩; have HD2 := Lib.hid (HD.out.below hb_); clear HD hb_; have HD := HD2; clear HD2)
            | (go_at_call 23; refine (HCT.out _ _ HD.out).mono ?_; rintro e wn ⟨rfl, hb_⟩; have HD2 := Lib.hid (HD.out.below hb_); clear HD hb_; have HD := HD2; clear HD2))
        all_goals
          have HBB := Lib.hid HD.out.bel
          go_wp2
          go_ret
          exact ⟨rfl, HBB.out⟩
end
section
open Go.ChangeShapes Go.WideShapes Go.ChangeAt Go.RowKit

theorem indexBack_own : ownKnob Tryd.prog.godebug = none := by kernel_rfl
theorem indexBack_laidOut : laidOutB Tryd.prog = true := by kernel_rfl
theorem indexBack_door (os : Os) (args : Array Value) : laidMetH Tryd.prog Rows.indexBackRow.laid ((World.doorLaid Tryd.prog 400 os).forCall (fun _ _ => 0) ⟨#[], args, []⟩).memory :=
  laidMetH_of_parts3 (fuel := 8) (laidMet_of_run' 8 (by kernel_rfl) (by kernel_rfl)) (by kernel_rfl) (by kernel_rfl)

set_option maxHeartbeats 1000000 in
set_option maxRecDepth 100000 in
theorem indexBack_lifted (os : Os) (started : os.Started) (H : Type) (enc : TypeId × Value → H) :
    ReturnsInHanded {} Tryd.checked os 5 .any (fun w args => (Rows.indexBackSpec.pre enc Tryd.prog Tryd.f5 [] false w args ∧ laidMetH Tryd.prog Rows.indexBackRow.laid w) ∧ sizedMet enc Tryd.prog Tryd.f5 (OpenSpec.ofChange Rows.indexBackSpec) false w args)
      (Rows.indexBackSpec.post enc Tryd.prog Tryd.f5 false true false false) := by
  refine returnsInHanded_of_change_and (C := Tryd.checked) (X := fun w _ => laidMetH Tryd.prog Rows.indexBackRow.laid w) (fun _ _ _ hh h => h.of_heap hh) indexBack_own started (by kernel_rfl) Tryd.func5
    (ChangeSpec.witness_shaped (enc := enc) (C := Tryd.checked) (os := os) (X := fun w _ => laidMetH Tryd.prog Rows.indexBackRow.laid w) false (World.doorLaid Tryd.prog 400 os) #[.slice none 0 0, .slice none 0 0, .slice none 0 0] 8 rfl (World.shaped_of_RefB (by kernel_rfl) (by kernel_rfl)) (by kernel_rfl) (by kernel_rfl) (by kernel_rfl) (indexBack_door os _)) ?_
  intro W base args ds gs before hval0 hW _ _ hL _
  have hval : ∀ (j : Nat) t v, Tryd.f5.params[j]? = some t → args[j]? = some v → Value.okWide Tryd.prog W .any base t v := hval0
  have hW' := hW
  obtain ⟨p, q, hA0, hV, rfl, hfz, hnd⟩ := hW
  have hA : DataW.TrodAll enc Tryd.prog W 0 (fun _ => true) true Tryd.f5.params.toList args.toList ds p := hA0
  obtain ⟨hT, h0⟩ := tab_at hL
  rw [Tryd.params5] at hA hval
  obtain ⟨v0, vs0, d0, ds0, p0, q0, hargs, rfl, rfl, h1, r0⟩ := trodAll_cons hA
  obtain ⟨v1, vs1, d1, ds1, p1, q1, rfl, rfl, rfl, h2, r1⟩ := trodAll_cons r0
  obtain ⟨v2, vs2, d2, ds2, p2, q2, rfl, rfl, rfl, h3, r2⟩ := trodAll_cons r1
  obtain ⟨rfl, rfl, rfl⟩ := trodAll_nil r2
  obtain rfl : args = #[v0, v1, v2] := by cases args; simp_all
  obtain ⟨rfl, rfl⟩ := trodVars_none hV
  have k0 := h1
  have lt0 : ∀ x ∈ p0, x.block < W.heap.size := by obtain ⟨m, hm⟩ := k0; exact DataW.trod_lt m _ _ _ hm
  obtain ⟨aa0, len0, cap0, F0, K0, rfl, hlc0, hmx0, hN0⟩ := open_puts (hval 0 55 v0 rfl rfl) h1
  have k1 := h2
  have lt1 : ∀ x ∈ p1, x.block < W.heap.size := by obtain ⟨m, hm⟩ := k1; exact DataW.trod_lt m _ _ _ hm
  obtain ⟨aa1, len1, cap1, F1, K1, rfl, hlc1, hmx1, hN1⟩ := open_puts (hval 1 55 v1 rfl rfl) h2
  have k2 := h3
  have lt2 : ∀ x ∈ p2, x.block < W.heap.size := by obtain ⟨m, hm⟩ := k2; exact DataW.trod_lt m _ _ _ hm
  obtain ⟨aa2, len2, cap2, F2, rfl, hlc2, hmx2, hN2⟩ := open_nums Tryd.underlying61 Tryd.underlying5 (by kernel_rfl) (hval 2 61 v2 rfl rfl) h3
  clear hA0 hval0
  simp only [List.append_nil] at hW'
  refine (indexBack_walk aa0 len0 cap0 F0 K0 aa1 len1 cap1 F1 K1 aa2 len2 cap2 _ W hN0 (by have := hmx0; unfold maxLen at this; omega) hN1 (by have := hmx1; unfold maxLen at this; omega) (byts_of hN2) (by have := hmx2; unfold maxLen at this; omega) hT h0).mono fun e W' ⟨he, bel⟩ => ?_
  subst he
  exact ⟨_, rfl, _, _, _, [], _, [], hW', trodAll_mk1 (shut_bool Tryd.underlying4 _), (trodAll_cons_mk (Below.trod indexBack_laidOut (by kernel_rfl) (of_decide_eq_true (by kernel_rfl)) k0 bel lt0) (trodAll_cons_mk (Below.trod indexBack_laidOut (by kernel_rfl) (of_decide_eq_true (by kernel_rfl)) k1 bel lt1) (trodAll_cons_mk (Below.trod indexBack_laidOut (by kernel_rfl) (of_decide_eq_true (by kernel_rfl)) k2 bel lt2) trodAll_mk0))), rfl, bel.frame _, fun h => by cases h⟩

theorem indexBack_over : Rows.indexBackRow.holds Tryd.pinned (OpenSpec.ofChange Rows.indexBackSpec) :=
  OpenClaim.holds_of_wide 5 Tryd.f5 rfl rfl rfl rfl rfl rfl rfl ⟨rfl, rfl, rfl, rfl, rfl⟩ rfl rfl rfl rfl rfl (by kernel_rfl) Tryd.func5 (by kernel_rfl)
    (of_decide_eq_true (by kernel_rfl)) (by unfold Func.isWrapper; first | (rw [if_pos (by decide +kernel)]; kernel_rfl) | (rw [if_neg (by decide +kernel)]; exact ⟨rfl, rfl⟩))
    (fun os started H enc _ => indexBack_lifted os started H enc)

/-- The statement: the card. -/
theorem indexBack_holds : Rows.IndexBackCardSaid :=
  Claim7.holds_tied_plain_at .later [] [.data] true (true, "c08c0475929537c4a01b2b11778c43a327459d9606bd3bdc0458533daab6a0cd") false
    indexBack_over (fun _ h => by cases h) (by kernel_rfl) (fun _ h => by cases h) indexBack_row_tie rfl ⟨rfl, rfl⟩ (by kernel_rfl) rfl
    (fun f fn hf hfn => by
      obtain rfl : f = 5 := Option.some.inj ((show Tryd.prog.funcNamed "trefoil/trefoillaw26.IndexBack" = some 5 by kernel_rfl).symm.trans hf) |>.symm
      obtain rfl : fn = Tryd.f5 := (Option.some.inj (Tryd.func5.symm.trans hfn)).symm
      exact ⟨by kernel_rfl, fun j t ht => by
        rw [Tryd.params5] at ht
        have hm : t ∈ [55, 55, 61] := by simpa using Array.mem_of_getElem? ht
        have hall : ([55, 55, 61].all fun u => !Tryd.prog.wantsStandIn u) = true := by kernel_rfl
        exact (show Tryd.prog.wantsStandIn t = false by simpa using List.all_eq_true.1 hall t hm)⟩)
    (by kernel_rfl)
#print axioms indexBack_holds
end
end Go.Proofs.YtcgadmeagbcbnaaDoor
