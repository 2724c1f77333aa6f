/- DealTurned: a list that is turned has each element as often, and is turned back. No condition. -/
import Derived.Test.YtcehclagipdleaaDealH
import Derived.Test.YtcehclagipdleaaDealI
import Derived.Test.YtcehclagipdleaaOpenS
namespace Go.Proofs.Ytcehclagipdleaa
open Go.ChangeShapes Go.WideShapes Go.ChangeAt Go.RowKit

/-- min, closed to the walk. -/
def imin (x y : Int) : Int := if y < x then y else x
theorem imin_nat (x y : Nat) : imin x y = ((min x y : Nat) : Int) := by unfold imin; split <;> omega

theorem pickI (l p : List Int) (h : Tot p) (hl : l.length = p.length) : turnOf l p = pick l p := turn_tot h hl
set_option maxRecDepth 100000 in
set_option maxHeartbeats 1000000 in
theorem dealTurned_0 (a b : Option Addr) (c j d M : Nat) (w : World) (hM : M = min j 60) (hjd : j ≤ d) (hn : (j : Int) ≤ 9223372036854775807) :
    Calls Try.prog 6 #[.slice a 0 c, .slice b j d] w fun e w' => e = .returned (.bool true) ∧ Below w.heap.size w w' := by
  have himin : ∀ x y : Int, (if y < x then y else x) = imin x y := fun _ _ => rfl
  have e1 : imin (j : Int) 60 = (M : Int) := by have := imin_nat j 60; rw [← hM] at this; exact this
  have b1 : (M : Int) ≤ d := by omega
  have b2 : (M : Int) ≤ 60 := by omega
  clear hM
  go_enter Try.func6, Try.ntmps6
  go_wp2_with fail
  refine (turned_any w.heap.size _ _ [] [] _ (Ints.nil _ _) (Ints.nil _ _) (by simp) (Nat.le_refl _)).mono ?_
  rintro e w1 ⟨u, rfl, hu, hb1⟩
  rw [show turnOf [] [] = [] from rfl] at hu
  obtain ⟨xa, xc, rfl, _⟩ := hu.parts
  rw [List.length_nil]
  have HB1 := Lib.hid hb1
  clear hu hb1
  go_wp2_with fail
  refine (works_any _).mono ?_
  rintro e w2 ⟨rfl, hb2⟩
  have HB2 := Lib.hid hb2
  clear hb2
  go_wp2
  go_ret
  exact ⟨rfl, fb_call (fb_call (Below.refl _ w) HB1.out) HB2.out⟩
set_option maxRecDepth 100000 in
set_option maxHeartbeats 4000000 in
theorem dealTurned_1 (a b : Option Addr) (k c j d N M : Nat) (l q : List Int) (w : World) (hI : Ints w w.heap.size (.slice a N c) l) (hJ : Ints w w.heap.size (.slice b M d) q) (hN : N = min k 40) (hM : M = min j 60) (hkc : k ≤ c) (hjd : j ≤ d) (hm : (k : Int) ≤ 9223372036854775807) (hn : (j : Int) ≤ 9223372036854775807) (h0 : 0 < k) :
    Calls Try.prog 6 #[.slice a k c, .slice b j d] w fun e w' => e = .returned (.bool true) ∧ Below w.heap.size w w' := by
  have himin : ∀ x y : Int, (if y < x then y else x) = imin x y := fun _ _ => rfl
  have e1 : imin (j : Int) 60 = (M : Int) := by have := imin_nat j 60; rw [← hM] at this; exact this
  have e2 : imin (k : Int) 40 = (N : Int) := by have := imin_nat k 40; rw [← hN] at this; exact this
  have b1 : M ≤ d := by omega
  have b2 : M ≤ 60 := by omega
  have b3 : N ≤ c := by omega
  have b4 : N ≤ 40 := by omega
  have b5 : 1 ≤ N := by omega
  have hli : l.length = N := hI.len.symm
  have hql : q.length = M := hJ.len.symm
  have htot := tot_perm N b5 (by omega) q
  have hmk := run_make_arr (P := Try.prog) 22 3 (.int .i64 0) 8 Try.underlying22 (by kernel_rfl) rfl N (by omega) (by omega)
  have HMK := Lib.hid hmk
  obtain ⟨lb, lo, rfl, hlb, hlc⟩ : ∃ b o, a = some ⟨b, o, none⟩ ∧ b < w.heap.size ∧ ∀ j, j < N → w.cell? ⟨b, o + j, none⟩ = some (.int .i64 (l.getD j 0)) := by
    obtain ⟨x, c', e, h⟩ := hI.parts
    injection e with e1 _ _
    subst e1
    rcases h with rfl | ⟨b, o, rfl, h1, h2⟩
    · simp at hli; omega
    · exact ⟨b, o, rfl, h1, fun j hj => h2 j (by omega)⟩
  have HNN := Lib.hid (And.intro hli (And.intro hql (And.intro hI (And.intro hJ htot))))
  have HLC := Lib.hid hlc
  clear hlc
  have hB0 : ((N : Int) == 0) = false := by simp <;> omega
  clear hI hJ hli hql htot hN hM hmk
  go_enter Try.func6, Try.ntmps6
  go_wp2_with fail
  refine (perm_yes N b5 (by omega) _ _ _ q _ HNN.out.2.2.2.1 (by rw [HNN.out.2.1]; omega)).mono ?_
  rintro e w1 ⟨B, rfl, hBw, hA, hb1⟩
  have hcut1 := HNN.out.2.2.1.below hb1 (Nat.le_refl _)
  have HW1 := Lib.hid (And.intro hA (And.intro hb1 (And.intro hcut1 hBw)))
  have hBl : B < w1.heap.size := hA.lt
  clear hA hb1 hcut1 hBw
  obtain ⟨p, hp⟩ : ∃ p, permOf N q = p := ⟨_, rfl⟩
  have HP : Hid (Tot p ∧ p.length = N) := by rw [← hp]; exact HNN.out.2.2.2.2
  rw [hp] at HW1
  clear hp e1 e2 himin
  have hpl : p.length = N := HP.out.2
  have hip : Ints w1 w1.heap.size (.slice (some ⟨B, 0, none⟩) N N) p := by have := Ints.arr HW1.out.1 (Nat.le_refl _); rwa [hpl] at this
  have HIP := Lib.hid hip
  clear hip hpl
  go_wp2_with fail
  refine (turned_any w1.heap.size _ _ l p _ (HW1.out.2.2.1.mono HW1.out.2.1.size) HIP.out (by rw [HNN.out.1]; omega) (Nat.le_refl _)).mono ?_
  rintro e w2 ⟨v, rfl, hv, hb2⟩
  rw [pickI l p HP.out.1 (by rw [HNN.out.1, HP.out.2])] at hv
  have hpl2 : (pick l p).length = N := by unfold pick; rw [List.length_map]; exact HP.out.2
  obtain ⟨xa, xc, rfl, hxv⟩ := hv.parts
  obtain ⟨tb, tof, rfl, htb, htc⟩ : ∃ b o, xa = some ⟨b, o, none⟩ ∧ b < w2.heap.size ∧ ∀ j, j < N → w2.cell? ⟨b, o + j, none⟩ = some (.int .i64 ((pick l p).getD j 0)) := by
    rcases hxv with h | ⟨b, o, rfl, h1, h2⟩
    · rw [h] at hpl2; simp at hpl2; omega
    · exact ⟨b, o, rfl, h1, fun j hj => h2 j (by omega)⟩
  rw [hpl2] at hv ⊢
  have HTC := Lib.hid htc
  have hA2 := HW1.out.1.below hb2 hBl
  have hB2 : B < w2.heap.size := hA2.lt
  have hBB : B ≠ w2.heap.size := by omega
  have HW2 := Lib.hid (And.intro hv (And.intro hb2 hA2))
  clear hv hb2 hxv hpl2 htc hA2
  have hmk := HMK.out
  go_wp2
  clear hmk
  go_loopw [9] (fun i wr => ∃ (i' : Nat) (bk : List Int), i' ≤ N ∧ i = .int .i64 i' ∧ Hid (bk.length = N) ∧ Arr wr w2.heap.size 3 (bk.map (Value.int .i64)) ∧ Hid (∀ j, j < i' → bk.getD (p.getD j 0).toNat 0 = (j : Int)) ∧ Below w2.heap.size w2 wr) (fun i _ => N - (intOf i).toNat)
  case atStart =>
    refine ⟨0, List.replicate N 0, Nat.zero_le _, rfl, by simp [Hid], ?_, fun j hj => by omega, (Below.refl _ _).alloc (Nat.le_refl _) _⟩
    have := Arr.new w2 3 (List.replicate N (.int .i64 0))
    simpa using this
  case round =>
    obtain ⟨i, bk, hi, rfl, hbl, hbk, hinv, hbel⟩ := hrel
    have harr : Arr wr B 3 (p.map (Value.int .i64)) := HW2.out.2.2.below hbel hB2
    by_cases hlt : i < N
    · have hpi : i < p.length := by rw [HP.out.2]; exact hlt
      have hcp := harr.int hpi
      have hfp := harr.frozen i
      have hr := HP.out.1.1 i hpi
      have hinj := fun j (hj : j < i) => HP.out.1.2 j i (by omega) hpi
      have hcl0 := HTC.out i hlt
      have hpk : (pick l p).getD i 0 = l.getD (p.getD i 0).toNat 0 := map_getD p _ i hpi
      rw [hpk] at hcl0
      obtain ⟨x, hx⟩ : ∃ x, p.getD i 0 = x := ⟨_, rfl⟩
      rw [hx] at hcp hr hinj hcl0
      obtain ⟨z, rfl⟩ := Int.eq_ofNat_of_zero_le hr.1
      rw [Int.toNat_natCast] at hcl0
      have hzN : z < N := by have := hr.2; rw [HP.out.2] at this; omega
      have hcz : wr.cell? ⟨lb, lo + z, none⟩ = some (.int .i64 (l.getD z 0)) := (hbel.cell (p := ⟨lb, lo + z, none⟩) (by have := HW1.out.2.1.size; have := HW2.out.2.1.size; show lb < _; omega)).trans ((HW2.out.2.1.cell (p := ⟨lb, lo + z, none⟩) (by have := HW1.out.2.1.size; show lb < _; omega)).trans ((HW1.out.2.1.cell (p := ⟨lb, lo + z, none⟩) hlb).trans (HLC.out z hzN)))
      have hct : wr.cell? ⟨tb, tof + i, none⟩ = some (.int .i64 (l.getD z 0)) := (hbel.cell (p := ⟨tb, tof + i, none⟩) htb).trans hcl0
      have hcb : wr.cell? ⟨w2.heap.size, z, none⟩ = some (.int .i64 (bk.getD z 0)) := hbk.int (by rw [hbl.out]; exact hzN)
      have hfb := hbk.frozen z
      have hset := hbk.setInt z (i : Int)
      have hinv2 : ∀ j, j < i + 1 → (bk.set z (i : Int)).getD (p.getD j 0).toNat 0 = (j : Int) := fun j hj => by
        rw [getD_set]
        by_cases e : j = i
        · subst e; rw [hx, Int.toNat_natCast, if_pos ⟨rfl, by rw [hbl.out]; exact hzN⟩]
        · have hj' : j < i := by omega
          have hjr := HP.out.1.1 j (by omega)
          have : ¬ (z = (p.getD j 0).toNat ∧ (p.getD j 0).toNat < bk.length) := fun h => by
            have := hinj j hj' (by omega)
            omega
          rw [if_neg this]; exact hinv.out j hj'
      have HS := Lib.hid (And.intro hset hinv2)
      obtain ⟨y, hy⟩ : ∃ y, l.getD z 0 = y := ⟨_, rfl⟩
      rw [hy] at hcz hct
      obtain ⟨y2, hy2⟩ : ∃ y2, bk.getD z 0 = y2 := ⟨_, rfl⟩
      rw [hy2] at hcb
      have i0 : (0 : Int) ≤ i := by omega
      have i1 : (i : Int) < N := by omega
      have z0 : (0 : Int) ≤ z := by omega
      have z1 : (z : Int) < N := by omega
      have zB : decide ((z : Int) < 0) = false := by simp
      have zB2 : decide (N ≤ z) = false := by simp; omega
      clear hset hinv2 hy hy2 hx hinj hr hcl0 hpk hpi hinv hbk harr
      go_wp2
      go_quiet (fail)
      go_wp2
      go_roundw
      case rel => exact ⟨i + 1, _, by omega, by go_num, by show (bk.set z (i : Int)).length = N; rw [List.length_set]; exact hbl.out, HS.out.1, HS.out.2, by first | exact bel_drewN (hbel.setCell (Nat.le_refl _) _) _ | exact hbel.setCell (Nat.le_refl _) _⟩
      case measure => simp [intOf]; omega
    · obtain rfl : N = i := by omega
      have hbi : Ints wr wr.heap.size (.slice (some ⟨w2.heap.size, 0, none⟩) N N) bk := by have := Ints.arr hbk (Nat.le_refl _); rwa [hbl.out] at this
      have hti : Ints wr wr.heap.size (.slice (some ⟨tb, tof, none⟩) N xc) (pick l p) := (HW2.out.1.below hbel (Nat.le_refl _)).mono hbel.size
      have hli : Ints wr wr.heap.size (.slice (some ⟨lb, lo, none⟩) N c) l := (((HW1.out.2.2.1.below HW2.out.2.1 HW1.out.2.1.size).below hbel (Nat.le_trans HW1.out.2.1.size HW2.out.2.1.size))).mono (Nat.le_trans HW1.out.2.1.size (Nat.le_trans HW2.out.2.1.size hbel.size))
      have hbt : turnOf (pick l p) bk = l := by
        have := back_turn HP.out.1 (by rw [HNN.out.1, HP.out.2]) (by rw [hbl.out, HP.out.2]) (fun i hi => hinv.out i (by rw [← HP.out.2]; exact hi))
        rwa [pickI l p HP.out.1 (by rw [HNN.out.1, HP.out.2])] at this
      have HR := Lib.hid (And.intro hbi (And.intro hti (And.intro hli (And.intro hbt (And.intro hbel harr)))))
      have hBr : B < wr.heap.size := harr.lt
      clear hbi hti hli hbt hbel harr hbk hinv hbl hlt hi
      go_wp2_with fail
      refine (turned_any wr.heap.size _ _ (pick l p) bk _ HR.out.2.1 HR.out.1 (by unfold pick; rw [List.length_map, HP.out.2]; omega) (Nat.le_refl _)).mono ?_
      rintro e w3 ⟨v3, rfl, hv3, hb3⟩
      rw [HR.out.2.2.2.1] at hv3
      have HV3 := Lib.hid (And.intro hv3 hb3)
      clear hv3 hb3
      go_wp2_with fail
      refine (alike_any w3.heap.size v3 _ l l _ HV3.out.1 ((HR.out.2.2.1.below HV3.out.2 (Nat.le_refl _)).mono HV3.out.2.size) (by rw [HNN.out.1]; omega)).mono ?_
      rintro e w4 ⟨rfl, hb4⟩
      rw [alk_same]
      have ha4 : Arr w4 B 3 (p.map (Value.int .i64)) := (HR.out.2.2.2.2.2.below HV3.out.2 hBr).below hb4 (Nat.lt_of_lt_of_le hBr HV3.out.2.size)
      have hc4 := ha4.int (j := 0) (by rw [HP.out.2]; omega)
      have hf4 := ha4.frozen 0
      have hs4 := ha4.setInt 0 (N : Int)
      have H4 := Lib.hid (And.intro hb4 hs4)
      clear hb4 ha4 hs4
      go_wp2_with fail
      have hp4 : Ints (w4.setCell ⟨B, 0, none⟩ (.int .i64 N)) w4.heap.size (.slice (some ⟨B, 0, none⟩) N N) (p.set 0 (N : Int)) := by
        have := Ints.arr (n := w4.heap.size) H4.out.2 (by simp)
        rw [List.length_set, HP.out.2] at this; exact this
      have hl4 : Ints (w4.setCell ⟨B, 0, none⟩ (.int .i64 N)) w4.heap.size (.slice (some ⟨lb, lo, none⟩) N c) l := by
        have hbb : Below w.heap.size w4 (w4.setCell ⟨B, 0, none⟩ (.int .i64 N)) := (Below.refl _ _).setCell (by exact HW1.out.2.2.2) _
        have h1 := (((HW1.out.2.2.1.below HW2.out.2.1 HW1.out.2.1.size).below HR.out.2.2.2.2.1 (Nat.le_trans HW1.out.2.1.size HW2.out.2.1.size)).below HV3.out.2 (Nat.le_trans HW1.out.2.1.size (Nat.le_trans HW2.out.2.1.size HR.out.2.2.2.2.1.size))).below H4.out.1 (Nat.le_trans HW1.out.2.1.size (Nat.le_trans HW2.out.2.1.size (Nat.le_trans HR.out.2.2.2.2.1.size HV3.out.2.size)))
        exact (h1.below hbb (Nat.le_refl _)).mono (Nat.le_trans HW1.out.2.1.size (Nat.le_trans HW2.out.2.1.size (Nat.le_trans HR.out.2.2.2.2.1.size (Nat.le_trans HV3.out.2.size H4.out.1.size))))
      have hbad : turnOf l (p.set 0 (N : Int)) = [] := by
        have := turn_bad (l := l) (p := p) (by rw [HNN.out.1, HP.out.2]) (by rw [HP.out.2]; omega)
        rwa [HNN.out.1] at this
      refine (turned_any w4.heap.size _ _ l (p.set 0 (N : Int)) _ hl4 hp4 (by rw [HNN.out.1]; omega) (by simp)).mono ?_
      rintro e w5 ⟨v5, rfl, hv5, hb5⟩
      rw [hbad] at hv5
      obtain ⟨x5, c5, rfl, _⟩ := hv5.parts
      rw [List.length_nil]
      have HB5 := Lib.hid hb5
      clear hv5 hb5 hp4 hl4 hbad hc4
      go_wp2_with fail
      refine (works_any _).mono ?_
      rintro e w6 ⟨rfl, hb6⟩
      have HB6 := Lib.hid hb6
      clear hb6
      go_wp2
      go_ret
      exact ⟨rfl, fb_call (fb_call (fb_set (fb_call (fb_call (fb_call (fb_call (fb_call (Below.refl _ w) HW1.out.2.1) HW2.out.2.1) HR.out.2.2.2.2.1) HV3.out.2) H4.out.1) (by exact HW1.out.2.2.2) _) HB5.out) HB6.out⟩
theorem dealTurned_walk (a b : Option Addr) (k c j d : Nat) (l p : List Int) (w : World) (hI : Ints w w.heap.size (.slice a k c) l) (hJ : Ints w w.heap.size (.slice b j d) p) (hm : (k : Int) ≤ 9223372036854775807) (hn : (j : Int) ≤ 9223372036854775807) :
    Calls Try.prog 6 #[.slice a k c, .slice b j d] w fun e w' => e = .returned (.bool true) ∧ Below w.heap.size w w' := by
  by_cases h0 : k = 0
  · subst h0
    exact dealTurned_0 a b c j d _ w rfl hJ.cap hn
  · exact dealTurned_1 a b k c j d _ _ _ _ w (hI.cut (Nat.min_le_left k 40)) (hJ.cut (Nat.min_le_left j 60)) rfl rfl hI.cap hJ.cap hm hn (by omega)

theorem dealTurned_own : ownKnob Try.prog.godebug = none := by kernel_rfl
theorem dealTurned_laidOut : laidOutB Try.prog = true := by kernel_rfl

set_option maxHeartbeats 1000000 in
set_option maxRecDepth 100000 in
theorem dealTurned_lifted (os : Os) (started : os.Started) (H : Type) (enc : TypeId × Value → H) :
    ReturnsInHanded {} Try.checked os 6 .any (Rows.dealTurnedSpec.pre6 enc Try.prog Try.f6 Rows.dealTurnedRow.domain false) (Rows.dealTurnedSpec.post enc Try.prog Try.f6 false true false false) := by
  refine returnsInHanded_of_change (C := Try.checked) dealTurned_own started (by kernel_rfl) Try.func6
    (ChangeSpec.witness6 (enc := enc) (C := Try.checked) false ⟨#[], #[.slice none 0 0, .slice none 0 0], []⟩ 8 (by kernel_rfl) (by kernel_rfl) (by kernel_rfl) (by kernel_rfl)) ?_
  intro W base args ds gs before hval0 hW hcnd _
  have hval : ∀ (j : Nat) t v, Try.f6.params[j]? = some t → args[j]? = some v → Value.okWide Try.prog W .any base t v := hval0
  have hW' := hW
  obtain ⟨p, q, hA0, hV, rfl, hfz, hnd⟩ := hW
  have hA : DataW.TrodAll enc Try.prog W 0 (fun _ => true) true Try.f6.params.toList args.toList ds p := hA0
  rw [Try.params6] at hA hval
  obtain ⟨v0, vs0, d0, ds0, p0, q0, hargs, rfl, rfl, h0, r0⟩ := trodAll_cons hA
  obtain ⟨v1, vs1, d1, ds1, p1, q1, rfl, rfl, rfl, h1, r1⟩ := trodAll_cons r0
  obtain ⟨rfl, rfl, rfl⟩ := trodAll_nil r1
  obtain rfl : args = #[v0, v1] := by cases args; simp_all
  obtain ⟨rfl, rfl⟩ := trodVars_none hV
  have k0 := h0
  have lt0 : ∀ x ∈ p0, x.block < W.heap.size := by obtain ⟨m, hm⟩ := k0; exact DataW.trod_lt m _ _ _ hm
  obtain ⟨a, c, l, rfl, hil, hwl, hml⟩ := open_intsW Try.underlying22 Try.underlying3 (by kernel_rfl) (hval 0 22 v0 rfl rfl) h0
  have k1 := h1
  have lt1 : ∀ x ∈ p1, x.block < W.heap.size := by obtain ⟨m, hm⟩ := k1; exact DataW.trod_lt m _ _ _ hm
  obtain ⟨b, d, p, rfl, hip, hwp, hmp⟩ := open_intsW Try.underlying22 Try.underlying3 (by kernel_rfl) (hval 1 22 v1 rfl rfl) h1
  clear hA0 hval0
  refine (dealTurned_walk a b l.length c p.length d l p W hil hip (by unfold maxLen at hml; omega) (by unfold maxLen at hmp; omega)).mono fun e W' ⟨he, bel⟩ => ?_
  subst he
  exact ⟨_, rfl, _, _, _, [], _, [], hW', trodAll_mk1 (shut_bool Try.underlying4 _), (trodAll_cons_mk (Below.trod dealTurned_laidOut (by kernel_rfl) (of_decide_eq_true (by kernel_rfl)) k0 bel lt0) (trodAll_cons_mk (Below.trod dealTurned_laidOut (by kernel_rfl) (of_decide_eq_true (by kernel_rfl)) k1 bel lt1) trodAll_mk0)), rfl, bel.frame _, fun h => by cases h⟩

theorem dealTurned_over : Rows.dealTurnedRow.holds Try.pinned (OpenSpec.ofChange Rows.dealTurnedSpec) :=
  OpenClaim.holds_of_wide 6 Try.f6 rfl rfl rfl rfl rfl rfl rfl ⟨rfl, rfl, rfl, rfl, rfl⟩ rfl rfl rfl rfl rfl (by kernel_rfl) Try.func6 (by kernel_rfl)
    (of_decide_eq_true (by kernel_rfl)) (by unfold Func.isWrapper; first | (rw [if_pos (by decide +kernel)]; kernel_rfl) | (rw [if_neg (by decide +kernel)]; exact ⟨rfl, rfl⟩))
    (fun os started H enc _ => dealTurned_lifted os started H enc)

/-- The statement. -/
theorem dealTurned_holds : Rows.DealTurnedSaid := dealTurned_over
#print axioms dealTurned_holds
end Go.Proofs.Ytcehclagipdleaa
