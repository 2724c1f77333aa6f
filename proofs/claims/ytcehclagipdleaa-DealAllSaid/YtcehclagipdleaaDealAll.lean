/- DealAll: what Perm makes is a permutation, and each comes of the draws by which it can be told. No condition. -/
import Derived.Test.YtcehclagipdleaaDealH
import Derived.Test.YtcehclagipdleaaDealJ
import Derived.Test.YtcehclagipdleaaOpenS
namespace Go.Proofs.Ytcehclagipdleaa
open Go.ChangeShapes Go.WideShapes Go.ChangeAt Go.RowKit

/-- min, closed to the walk. -/
def imin (x y : Int) : Int := if y < x then y else x
theorem imin_nat (x y : Nat) : imin x y = ((min x y : Nat) : Int) := by unfold imin; split <;> omega

theorem ksOf_bd : ∀ i ds, i ≤ 4096 → ∀ j, 0 ≤ (ksOf i ds).getD j 0 ∧ (ksOf i ds).getD j 0 ≤ 4096 := by
  intro i
  induction i with
  | zero => intro ds _ j; simp [ksOf]
  | succ i ih =>
    intro ds hi j
    have hk := kOf_le (ds.headD 0) (i + 1)
    cases j with
    | zero => simp only [ksOf, List.getD_cons_zero]; omega
    | succ j => simp only [ksOf, List.getD_cons_succ]; exact ih _ (by omega) j
set_option maxRecDepth 100000 in
set_option maxHeartbeats 8000000 in
theorem dealAll_1 (n : Int) (b : Option Addr) (j d N M r : Nat) (q : List Int) (w : World) (hn0 : 0 ≤ n) (hn1 : n ≤ 255) (hr : n % 40 = (r : Int)) (hN : N = r + 1) (hJ : Ints w w.heap.size (.slice b M d) q) (hM : M = min j 60) (hjd : j ≤ d) (hn : (j : Int) ≤ 9223372036854775807) :
    Calls Try.prog 5 #[.int .u8 n, .slice b j d] w fun e w' => e = .returned (.bool true) ∧ Below w.heap.size w w' := by
  obtain ⟨i0, hi, hz0, hz1, hz2⟩ := info_parts infoI
  have himin : ∀ x y : Int, (if y < x then y else x) = imin x y := fun _ _ => rfl
  have e1 : imin (j : Int) 60 = (M : Int) := by have := imin_nat j 60; rw [← hM] at this; exact this
  have b1 : M ≤ d := by omega
  have b2 : M ≤ 60 := by omega
  have b4 : N ≤ 40 := by omega
  have b5 : 1 ≤ N := by omega
  have e2 : (1 : Int) + (r : Int) = (N : Int) := by omega
  have hql : q.length = M := hJ.len.symm
  have e3 : imin ((N : Int) - 1) (M : Int) = (usedOf N q : Int) := by
    rw [(permOf_nat N b5 (by omega) q).2, hql]
    have := imin_nat (N - 1) M
    rw [← this]; congr 1; omega
  have htot := tot_perm N b5 (by omega) q
  have hp0 := (permOf_nat N b5 (by omega) q).1
  have hks := permOf_ks N b5 (by omega) q
  have hmk := run_make_arr (P := Try.prog) 22 3 (.int .i64 0) 8 Try.underlying22 (by kernel_rfl) rfl N (by omega) (by omega)
  have hmb := run_make_arr (P := Try.prog) 29 4 (.bool false) 1 Try.underlying29 (by kernel_rfl) rfl N (by omega) (by omega)
  have HMK := Lib.hid hmk
  have HMB := Lib.hid hmb
  obtain ⟨p, hp⟩ : ∃ p, permOf N q = p := ⟨_, rfl⟩
  rw [hp] at htot hp0 hks
  have HNN := Lib.hid (And.intro hql (And.intro hJ (And.intro htot (And.intro hp0 (And.intro hks hp)))))
  clear hJ hql htot hN hM hmk hmb hp0 hks hp
  go_enter Try.func5, Try.ntmps5
  go_wp2_with fail
  refine (perm_yes N b5 (by omega) _ _ _ q _ HNN.out.2.1 (by rw [HNN.out.1]; omega)).mono ?_
  rintro e w1 ⟨B, rfl, hBw, hA, hb1⟩
  rw [HNN.out.2.2.2.2.2] at hA
  have HW1 := Lib.hid (And.intro hA (And.intro hb1 hBw))
  have hBl : B < w1.heap.size := hA.lt
  clear hA hb1 hBw
  obtain ⟨uu, huu⟩ : ∃ uu, usedOf N q = uu := ⟨_, rfl⟩
  simp only [huu] at e3 ⊢
  clear huu hr
  have hmb := HMB.out
  go_wp2
  clear hmb e1 e2 e3 himin
  have HMKN := Lib.hid HMK.out
  go_loopw [9] (fun i wr => ∃ (i' : Nat) (sn : List Bool), i' ≤ N ∧ i = .int .i64 i' ∧ Hid (sn.length = N) ∧ Arr wr w1.heap.size 4 (sn.map Value.bool) ∧ Hid (∀ v, sn.getD v false = true → ∃ j, j < i' ∧ p.getD j 0 = (v : Int)) ∧ Below w1.heap.size w1 wr) (fun i _ => N - (intOf i).toNat)
  case atStart =>
    refine ⟨0, List.replicate N false, Nat.zero_le _, rfl, by simp [Hid], ?_, fun v hv => ?_, (Below.refl _ _).alloc (Nat.le_refl _) _⟩
    · have := Arr.new w1 4 (List.replicate N (.bool false))
      simpa using this
    · simp only [List.getD_eq_getElem?_getD, List.getElem?_replicate] at hv
      split at hv <;> simp at hv
  case round =>
    obtain ⟨i, sn, hi', rfl, hsl, hsn, hinv, hbel⟩ := hrel
    have harr : Arr wr B 3 (p.map (Value.int .i64)) := HW1.out.1.below hbel hBl
    by_cases hlt : i < N
    · have hpl : p.length = N := HNN.out.2.2.1.2
      have hpi : i < p.length := by omega
      have hcp := harr.int hpi
      have hr := HNN.out.2.2.1.1.1 i hpi
      obtain ⟨z, hz⟩ := Int.eq_ofNat_of_zero_le hr.1
      have hno := seen_no HNN.out.2.2.1.1 hpi hz hinv.out
      have hst := seen_set hz hinv.out
      have hzN : z < N := by have := hr.2; omega
      have hcs := hsn.bool (j := z) (by rw [hsl.out]; exact hzN)
      rw [hno] at hcs
      rw [hz] at hcp
      have hfs := hsn.frozen z
      have hset := hsn.setBool z true
      have HS := Lib.hid (And.intro hset hst)
      have i0 : (0 : Int) ≤ i := by omega
      have i1 : (i : Int) < N := by omega
      have z0 : (0 : Int) ≤ z := by omega
      have z1 : (z : Int) < N := by omega
      have zB : decide ((z : Int) < 0) = false := by simp
      have zB2 : decide (N ≤ z) = false := by simp; omega
      clear hset hst hno hr hpi hpl hz hinv hsn harr
      go_wp2
      go_roundw
      case rel => exact ⟨i + 1, _, by omega, by go_num, by show (sn.set z true).length = N; rw [List.length_set]; exact hsl.out, HS.out.1, HS.out.2, hbel.setCell (Nat.le_refl _) _⟩
      case measure => simp [intOf] <;> omega
    · obtain rfl : N = i := by omega
      obtain ⟨wa, rfl⟩ : ∃ wo : World, wo = wr := ⟨_, rfl⟩
      have HR := Lib.hid (And.intro harr hbel)
      clear harr hbel hinv hsn hsl hlt hi'
      have hBr : B < wa.heap.size := HR.out.1.lt
      have hmk := HMKN.out
      go_wp2
      clear hmk
      go_loopw [11] (fun i wx => ∃ k : Nat, k ≤ N ∧ i = .int .i64 k ∧ Arr wx wa.heap.size 3 ((mixL N k).map (Value.int .i64)) ∧ Below wa.heap.size wa wx) (fun i _ => N - (intOf i).toNat)
      case atStart =>
        refine ⟨0, Nat.zero_le _, rfl, ?_, (Below.refl _ _).alloc (Nat.le_refl _) _⟩
        have := Arr.new wa 3 (List.replicate N (.int .i64 0))
        simpa [mixL, ids] using this
      case round =>
        obtain ⟨k, hk, rfl, hnow, hbelx⟩ := hrel
        have hml := mixL_len N k hk
        by_cases hlt : k < N
        · have hc := hnow.int (j := k) (by omega)
          have hf := hnow.frozen k
          have hset := hnow.setInt k (k : Int)
          rw [mixL_set N k hlt] at hset
          have HS := Lib.hid hset
          have k0 : (0 : Int) ≤ k := by omega
          have k1 : (k : Int) < N := by omega
          clear hset hml hnow
          go_wp2
          go_roundw
          case rel => exact ⟨k + 1, by omega, by go_num, HS.out, hbelx.setCell (Nat.le_refl _) _⟩
          case measure => simp [intOf] <;> omega
        · obtain rfl : N = k := by omega
          obtain ⟨wb, rfl⟩ : ∃ wo : World, wo = wr := ⟨_, rfl⟩
          rw [mixL_all] at hnow
          have HX := Lib.hid (And.intro hnow (And.intro hbelx (HR.out.1.below hbelx hBr)))
          have hNWl : wa.heap.size < wb.heap.size := hnow.lt
          clear hnow hbelx hml hlt hk
          go_wp2
          go_loopw [12, 13] (fun v i wy => ∃ (m : Nat) (z : Int) (tl nl ds : List Int), z = (m : Int) ∧ m + 1 ≤ N ∧ i = .int .i64 z ∧ IRow wy wb.heap.size v tl ∧ Arr wy wa.heap.size 3 (nl.map (Value.int .i64)) ∧
            Hid (tl ++ ksOf m ds = ksOf (N - 1) q ∧ prm m nl ds = p ∧ Tot nl ∧ nl.length = N) ∧ tl.length + m + 1 ≤ N ∧ wb.heap.size ≤ wy.heap.size ∧ Below wa.heap.size wa wy) (fun _ i _ => (intOf i).toNat)
          case atStart => exact ⟨N - 1, _, [], ids N, q, by omega, by omega, rfl, IRow.nil _ _, HX.out.1, ⟨rfl, HNN.out.2.2.2.1.symm, tot_ids N, ids_len N⟩, by simp; omega, Nat.le_refl _, HX.out.2.1⟩
          case round =>
            obtain ⟨m, z, tl, nl, ds, hz, hm, rfl, hown, hnow, hst, htl, hszy, hbely⟩ := hrel
            obtain ⟨wc, rfl⟩ : ∃ wo : World, wo = wr := ⟨_, rfl⟩
            have hpar : Arr wc B 3 (p.map (Value.int .i64)) := HR.out.1.below hbely hBr
            cases m with
            | zero =>
              obtain rfl : z = 0 := by omega
              have htk : tl = ksOf (N - 1) q := by have := hst.out.1; simpa [ksOf] using this
              have hTI := hown.ints (n := wc.heap.size) (Nat.le_refl _)
              obtain ⟨xa, xc, rfl, hxp⟩ := hTI.parts
              have htb : ∀ j, j < tl.length → 0 ≤ tl.getD j 0 ∧ tl.getD j 0 ≤ 4096 := fun j hj => by rw [htk]; exact ksOf_bd _ _ (by omega) j
              have HC := Lib.hid (And.intro htk (And.intro hTI (And.intro hxp (And.intro htb (And.intro hbely hpar)))))
              have htn : tl.length ≤ 40 := by omega
              have hBc : B < wc.heap.size := hpar.lt
              clear htk hTI hxp htb hbely hpar hst hown hnow hz hszy
              go_wp2_with fail
              refine (perm_yes N b5 (by omega) _ _ _ tl _ HC.out.2.1 (by omega)).mono ?_
              rintro e w5 ⟨B2, rfl, hB2, hA2, hb5⟩
              rw [HC.out.1, HNN.out.2.2.2.2.1.1] at hA2
              have hB2l : B2 < w5.heap.size := hA2.lt
              have H5 := Lib.hid (And.intro hA2 (And.intro hb5 hB2))
              obtain ⟨uu2, huu2⟩ : ∃ uu2, usedOf N tl = uu2 := ⟨_, rfl⟩
              simp only [huu2]
              clear hA2 hb5 huu2 hB2
              go_wp2
              go_loopw [19, 20] (fun v i wu => ∃ i' : Nat, i' ≤ tl.length ∧ i = .int .i64 i' ∧ IRow wu w5.heap.size v (moreOf fR N 0 (tl.take i')) ∧ Below w5.heap.size w5 wu) (fun _ i _ => tl.length - (intOf i).toNat)
              case atStart => exact ⟨0, Nat.zero_le _, rfl, IRow.nil _ _, Below.refl _ _⟩
              case round =>
                obtain ⟨i, hi', rfl, hown, hbelu⟩ := hrel
                by_cases hlt : i < tl.length
                · obtain ⟨gb, go, rfl, hgb, hgc⟩ : ∃ b o, xa = some ⟨b, o, none⟩ ∧ b < wc.heap.size ∧ ∀ j, j < tl.length → wc.cell? ⟨b, o + j, none⟩ = some (.int .i64 (tl.getD j 0)) := by
                    rcases HC.out.2.2.1 with h | h
                    · rw [h] at hlt; simp at hlt
                    · exact h
                  have hcy : wr.cell? ⟨gb, go + i, none⟩ = some (.int .i64 (tl.getD i 0)) := (hbelu.cell (p := ⟨gb, go + i, none⟩) (by have := H5.out.2.1.size; show gb < _; omega)).trans ((H5.out.2.1.cell (p := ⟨gb, go + i, none⟩) hgb).trans (hgc i hlt))
                  have hyb := HC.out.2.2.2.1 i hlt
                  have htki : tl.take (i + 1) = tl.take i ++ [tl.getD i 0] := by
                    rw [List.take_succ_eq_append_getElem hlt]; simp [List.getD_eq_getElem?_getD, hlt]
                  have hms := moreOf_snoc fR N (tl.getD i 0) (tl.take i) 0
                  rw [← htki, List.length_take, Nat.min_eq_left (by omega), Nat.zero_add] at hms
                  obtain ⟨y, hy⟩ : ∃ y, tl.getD i 0 = y := ⟨_, rfl⟩
                  rw [hy] at hcy hyb hms
                  have HM := Lib.hid hms
                  have hml : (moreOf fR N 0 (tl.take i)).length ≤ 40 := by rw [moreOf_len]; simp; omega
                  have f0 : 0 ≤ fR i ∧ fR i ≤ 3 := by unfold fR; omega
                  have fE : (1 : Int) + (i : Int) % 3 = fR i := by unfold fR; omega
                  obtain ⟨fr, hfr⟩ : ∃ fr, fR i = fr := ⟨_, rfl⟩
                  rw [hfr] at f0 fE
                  have HFR := Lib.hid hfr
                  have pr0 : 0 ≤ ((N : Int) - i) * fr := Int.mul_nonneg (by omega) f0.1
                  have pr1 : ((N : Int) - i) * fr ≤ 120 := by
                    have h1 : ((N : Int) - i) * fr ≤ 40 * fr := Int.mul_le_mul_of_nonneg_right (by omega) f0.1
                    omega
                  have y0 := hyb.1
                  have y1 := hyb.2
                  have f1 := f0.1
                  have f2 := f0.2
                  have hw5 : w5.heap.size ≤ wr.heap.size := hbelu.size
                  clear hyb hms htki hy hgc f0 hfr
                  go_wp2_with (at_builtin; refine wpList_append_own _ rfl _ _ 22 rfl w5.heap.size 3 i0 (.int .i64 0) 1 8 Try.underlying22 hi hz0 hz1 hz2 rfl (by decide) _ _ _ rfl (hown.alloc _) ⟨wr.heap.size, 0, none⟩ 1 1 [.int .i64 (y - ((N : Int) - i) * fr)] rfl rfl (cell_one_new _ _ _) (by simp [Value.oneCell']) (by unfold maxLen; omega) (by omega) (by simp; omega) ?_; intro v' w6 hown' hgrow hfr')
                  go_roundw
                  case rel =>
                    refine ⟨i + 1, by omega, by go_num, ?_, IRow.appBel hbelu hown hgrow⟩
                    rw [HM.out, HFR.out]
                    exact IRow.app hown'
                  case measure => simp [intOf] <;> omega
                · obtain rfl : i = tl.length := by omega
                  rw [List.take_length] at hown
                  have hMI := hown.ints (n := wr.heap.size) (Nat.le_refl _)
                  have hmq : permOf N (moreOf fR N 0 tl) = p := by rw [HC.out.1]; exact HNN.out.2.2.2.2.1.2
                  have hml : (moreOf fR N 0 tl).length ≤ 40 := by rw [moreOf_len]; omega
                  obtain ⟨ya, yc, rfl, _⟩ := hMI.parts
                  have HU := Lib.hid (And.intro hMI (And.intro hmq (And.intro hml hbelu)))
                  obtain ⟨wd, rfl⟩ : ∃ wo : World, wo = wr := ⟨_, rfl⟩
                  clear hMI hmq hml hbelu hown hlt hi'
                  go_wp2_with fail
                  refine (perm_yes N b5 (by omega) _ _ _ (moreOf fR N 0 tl) _ HU.out.1 (by have := HU.out.2.2.1; omega)).mono ?_
                  rintro e w7 ⟨B3, rfl, hB3, hA3, hb7⟩
                  rw [HU.out.2.1] at hA3
                  have H7 := Lib.hid (And.intro hA3 (And.intro hb7 hB3))
                  have hp7 : Arr w7 B 3 (p.map (Value.int .i64)) := ((HC.out.2.2.2.2.2.below H5.out.2.1 hBc).below HU.out.2.2.2 (Nat.lt_of_lt_of_le hBc H5.out.2.1.size)).below hb7 (Nat.lt_of_lt_of_le hBc (Nat.le_trans H5.out.2.1.size HU.out.2.2.2.size))
                  have hq7 : Arr w7 B2 3 (p.map (Value.int .i64)) := (H5.out.1.below HU.out.2.2.2 hB2l).below hb7 (Nat.lt_of_lt_of_le hB2l HU.out.2.2.2.size)
                  have hpl : p.length = N := HNN.out.2.2.1.2
                  have ip := Ints.arr hp7 (Nat.le_refl _)
                  have iq := Ints.arr hq7 (Nat.le_refl _)
                  have ir := Ints.arr H7.out.1 (Nat.le_refl _)
                  rw [hpl] at ip iq ir
                  have HI := Lib.hid (And.intro ip (And.intro iq (And.intro ir hpl)))
                  obtain ⟨uu3, huu3⟩ : ∃ uu3, usedOf N (moreOf fR N 0 tl) = uu3 := ⟨_, rfl⟩
                  simp only [huu3]
                  clear hA3 hb7 hB3 hp7 hq7 hpl ip iq ir huu3
                  go_wp2_with fail
                  refine (alike_any w7.heap.size _ _ p p _ HI.out.2.1 HI.out.1 (by rw [HI.out.2.2.2]; omega)).mono ?_
                  rintro e w8 ⟨rfl, hb8⟩
                  rw [alk_same]
                  have HB8 := Lib.hid hb8
                  clear hb8
                  go_wp2_with fail
                  refine (alike_any w8.heap.size _ _ p p _ ((HI.out.2.2.1.below HB8.out (Nat.le_refl _)).mono HB8.out.size) ((HI.out.1.below HB8.out (Nat.le_refl _)).mono HB8.out.size) (by rw [HI.out.2.2.2]; omega)).mono ?_
                  rintro e w9 ⟨rfl, hb9⟩
                  rw [alk_same]
                  have HB9 := Lib.hid hb9
                  clear hb9
                  go_wp2_with fail
                  refine (works_any _).mono ?_
                  rintro e wx ⟨rfl, hbx⟩
                  have HBX := Lib.hid hbx
                  clear hbx
                  go_wp2
                  go_ret
                  exact ⟨rfl, fb_call (fb_call (fb_call (fb_call (fb_call (fb_call (fb_call (fb_call (fb_call (Below.refl _ w) HW1.out.2.1) HR.out.2) HC.out.2.2.2.2.1) H5.out.2.1) HU.out.2.2.2) H7.out.2.1) HB8.out) HB9.out) HBX.out⟩
            | succ m =>
              obtain rfl : z = (m : Int) + 1 := by omega
              obtain ⟨s1, s2, s3, s4⟩ := hst.out
              have hta := fun j (hj : j < N) => told_at s2 (by omega) s4 s3 hj
              have hkl := kOf_le (ds.headD 0) (m + 1)
              rw [ksOf_succ] at s1
              obtain ⟨kk, hkk⟩ : ∃ kk, kOf (ds.headD 0) (m + 1) = kk := ⟨_, rfl⟩
              rw [prm] at s2
              rw [hkk] at hta hkl s1 s2
              have HTA := Lib.hid hta
              have HST := Lib.hid (And.intro s1 (And.intro s2 (And.intro s3 s4)))
              have hcp := hpar.int (j := m + 1) (by rw [HNN.out.2.2.1.2]; omega)
              obtain ⟨pv, hpv⟩ : ∃ pv, p.getD (m + 1) 0 = pv := ⟨_, rfl⟩
              rw [hpv] at hcp
              have HPV := Lib.hid hpv
              have HN := Lib.hid (And.intro hown (And.intro hnow (And.intro hbely hpar)))
              clear hta s1 s2 s3 s4 hst hz hkk hpv hown hnow hbely hpar
              go_wp2
              go_loopw [14, 15] (fun c jx wz => ∃ (j nd : Nat) (K : Int), j ≤ m + 1 + 1 ∧ jx = .int .i64 j ∧ c = .int .i64 K ∧ Hid (K = found kk j) ∧ wz = wc.drewN nd) (fun _ jx _ => (m + 1 + 1) - (intOf jx).toNat)
              case atStart => exact ⟨0, 0, -1, Nat.zero_le _, rfl, rfl, by simp [Hid, found], rfl⟩
              case round =>
                obtain ⟨j, nd, K, hj, rfl, rfl, hK, rfl⟩ := hrel
                by_cases hlt : j < m + 1 + 1
                · have hjN : j < N := by omega
                  have hcj := HN.out.2.1.int (j := j) (by rw [HST.out.2.2.2]; exact hjN)
                  have hcp2 := hcp
                  have j0 : (0 : Int) ≤ j := by omega
                  have j1 : (j : Int) < N := by omega
                  have m0 : (0 : Int) ≤ (m : Int) + 1 := by omega
                  have m1 : (m : Int) + 1 < N := by omega
                  have hta := HTA.out j hjN
                  rw [HPV.out] at hta
                  by_cases he : j = kk
                  · have hv := hta.2 he
                    rw [hv] at hcj
                    have HE := Lib.hid he
                    clear hta hv he
                    go_wp2
                    go_quiet (fail)
                    go_wp2
                    go_roundw
                    case rel => exact ⟨j + 1, _, (j : Int), by omega, by go_num, rfl, by show (j : Int) = found kk (j + 1); rw [HE.out, found_succ_eq], by first | rfl | simp⟩
                    case measure => simp [intOf] <;> omega
                  · have hv : ¬ nl.getD j 0 = pv := fun h => he (hta.1 h)
                    obtain ⟨nv, hnv⟩ : ∃ nv, nl.getD j 0 = nv := ⟨_, rfl⟩
                    rw [hnv] at hcj hv
                    have hB : (nv == pv) = false := by simp [hv]
                    have HE := Lib.hid he
                    clear hta hv he hnv
                    go_wp2
                    go_quiet (fail)
                    go_wp2
                    go_roundw
                    case rel => exact ⟨j + 1, _, K, by omega, by go_num, rfl, by show K = found kk (j + 1); rw [found_succ_ne HE.out]; exact hK.out, by first | rfl | simp⟩
                    case measure => simp [intOf] <;> omega
                · obtain rfl : j = m + 1 + 1 := by omega
                  obtain rfl : K = (kk : Int) := by rw [hK.out, found_all hkl]
                  obtain ⟨wz, hwz⟩ : ∃ wz, wc.drewN nd = wz := ⟨_, rfl⟩
                  have hown : IRow wz wb.heap.size u12 tl := by rw [← hwz]; exact HN.out.1
                  have hnow : Arr wz wa.heap.size 3 (nl.map (Value.int .i64)) := by rw [← hwz]; exact HN.out.2.1
                  have hbelz : Below wa.heap.size wa wz := by rw [← hwz]; exact bel_drewN HN.out.2.2.1 nd
                  have hxz : wb.heap.size ≤ wz.heap.size := by rw [← hwz]; exact hszy
                  rw [hwz]
                  clear hwz hK hlt hj
                  have hkN : kk < N := by omega
                  have hnl : nl.length = N := HST.out.2.2.2
                  have hNW : wa.heap.size < wz.heap.size := by omega
                  have hne : u12.ownBlock ≠ some wa.heap.size := fun e => by have := World.ownsRow.lt hown _ e; omega
                  have c0 := hnow.int (j := m + 1) (by omega)
                  have c1 := hnow.int (j := kk) (by omega)
                  have s1 := hnow.setInt (m + 1) (nl.getD kk 0)
                  obtain ⟨xv, hxv⟩ : ∃ xv, nl.getD (m + 1) 0 = xv := ⟨_, rfl⟩
                  obtain ⟨kv, hkv⟩ : ∃ kv, nl.getD kk 0 = kv := ⟨_, rfl⟩
                  rw [hxv] at c0
                  rw [hkv] at c1
                  have HV := Lib.hid (And.intro hxv hkv)
                  have HNL := Lib.hid hnl
                  have j0 : (0 : Int) ≤ (m : Int) + 1 := by omega
                  have j1 : (m : Int) + 1 < N := by omega
                  have k0 : (0 : Int) ≤ kk := by omega
                  have k1 : (kk : Int) < N := by omega
                  clear hnl hxv hkv s1 hcp
                  go_wp2_with (at_builtin; refine wpList_append_own _ rfl _ _ 22 rfl wb.heap.size 3 i0 (.int .i64 0) 1 8 Try.underlying22 hi hz0 hz1 hz2 rfl (by decide) _ _ _ rfl (hown.alloc _) ⟨wz.heap.size, 0, none⟩ 1 1 [.int .i64 kk] rfl rfl (cell_one_new _ _ _) (by simp [Value.oneCell']) (by unfold maxLen; omega) (by omega) (by simp; omega) ?_; intro v' w4 hown' hgrow hfr'; have hA4 := (hnow.alloc (.cells #[.int .i64 kk] 3)).kept hgrow (Ne.symm hne); have g0 : w4.cell? ⟨wa.heap.size, m + 1, none⟩ = some (.int .i64 xv) := (hA4.int (j := m + 1) (by rw [HNL.out]; omega)).trans (by rw [HV.out.1]); have g1 : w4.cell? ⟨wa.heap.size, kk, none⟩ = some (.int .i64 kv) := (hA4.int (j := kk) (by rw [HNL.out]; omega)).trans (by rw [HV.out.2]); have f0 := hA4.frozen (m + 1); have f1 := hA4.frozen kk; have g2 : (w4.setCell ⟨wa.heap.size, m + 1, none⟩ (.int .i64 kv)).cell? ⟨wa.heap.size, kk, none⟩ = some (.int .i64 ((nl.set (m + 1) kv).getD kk 0)) := (hA4.setInt (m + 1) kv).int (by rw [List.length_set, HNL.out]; exact hkN); have hlt4 : wa.heap.size < w4.heap.size := hA4.lt)
                  have hne4 : v'.ownBlock ≠ some wa.heap.size := fun e => by have := World.ownsRow.lt hown' _ e; omega
                  have happ : IRow w4 wb.heap.size v' (tl ++ [(kk : Int)]) := IRow.app hown'
                  have hbel4 : Below wa.heap.size wa w4 := (hbelz.alloc (by omega) (.cells #[.int .i64 kk] 3)).grown hgrow (by simp; omega) (fun k e => by have := World.ownsRow.lt hown k e; omega)
                  go_roundw
                  case rel =>
                    refine ⟨m, _, tl ++ [(kk : Int)], swp nl (m + 1) kk, ds.tail, rfl, by omega, rfl, ?_, ?_, ⟨?_, HST.out.2.1, ?_, ?_⟩, ?_, ?_, ?_⟩
                    · exact (happ.other _ _ (by exact hne4)).other _ _ (by exact hne4)
                    · unfold swp; rw [HV.out.1, HV.out.2]; exact (hA4.setInt (m + 1) kv).setInt kk xv
                    · rw [List.append_assoc]; exact HST.out.1
                    · exact tot_swp HST.out.2.2.1 (by rw [HNL.out]; omega) (by rw [HNL.out]; omega)
                    · rw [swp_len]; exact HNL.out
                    · simp; omega
                    · have h := hgrow.size; simp at h ⊢; omega
                    · exact (hbel4.setCell (Nat.le_refl _) _).setCell (Nat.le_refl _) _
                  case measure => simp [intOf] <;> omega
theorem dealAll_walk (n : Int) (hw : (Lit.int .u8 n).wf = true) (b : Option Addr) (j d : Nat) (p : List Int) (w : World) (hJ : Ints w w.heap.size (.slice b j d) p) (hn : (j : Int) ≤ 9223372036854775807) :
    Calls Try.prog 5 #[.int .u8 n, .slice b j d] w fun e w' => e = .returned (.bool true) ∧ Below w.heap.size w w' := by
  have hn0 : 0 ≤ n ∧ n ≤ 255 := by simpa [Lit.wf, IntKind.min, IntKind.max, IntKind.signed, IntKind.bits] using hw
  exact dealAll_1 n b j d _ _ (n % 40).toNat _ w hn0.1 hn0.2 (by omega) rfl (hJ.cut (Nat.min_le_left j 60)) rfl hJ.cap hn

theorem dealAll_own : ownKnob Try.prog.godebug = none := by kernel_rfl
theorem dealAll_laidOut : laidOutB Try.prog = true := by kernel_rfl

set_option maxHeartbeats 1000000 in
set_option maxRecDepth 100000 in
theorem dealAll_lifted (os : Os) (started : os.Started) (H : Type) (enc : TypeId × Value → H) :
    ReturnsInHanded {} Try.checked os 5 .any (Rows.dealAllSpec.pre6 enc Try.prog Try.f5 Rows.dealAllRow.domain false) (Rows.dealAllSpec.post enc Try.prog Try.f5 false true false false) := by
  refine returnsInHanded_of_change (C := Try.checked) dealAll_own started (by kernel_rfl) Try.func5
    (ChangeSpec.witness6 (enc := enc) (C := Try.checked) false ⟨#[], #[.int .u8 0, .slice none 0 0], []⟩ 8 (by kernel_rfl) (by kernel_rfl) (by kernel_rfl) (by kernel_rfl)) ?_
  intro W base args ds gs before hval0 hW hcnd _
  have hval : ∀ (j : Nat) t v, Try.f5.params[j]? = some t → args[j]? = some v → Value.okWide Try.prog W .any base t v := hval0
  have hW' := hW
  obtain ⟨p, q, hA0, hV, rfl, hfz, hnd⟩ := hW
  have hA : DataW.TrodAll enc Try.prog W 0 (fun _ => true) true Try.f5.params.toList args.toList ds p := hA0
  rw [Try.params5] at hA hval
  obtain ⟨v0, vs0, d0, ds0, p0, q0, hargs, rfl, rfl, h0, r0⟩ := trodAll_cons hA
  obtain ⟨v1, vs1, d1, ds1, p1, q1, rfl, rfl, rfl, h1, r1⟩ := trodAll_cons r0
  obtain ⟨rfl, rfl, rfl⟩ := trodAll_nil r1
  obtain rfl : args = #[v0, v1] := by cases args; simp_all
  obtain ⟨rfl, rfl⟩ := trodVars_none hV
  have k0 := h0
  have lt0 : ∀ x ∈ p0, x.block < W.heap.size := by obtain ⟨m, hm⟩ := k0; exact DataW.trod_lt m _ _ _ hm
  obtain ⟨n, rfl, en1, en2, wfn⟩ := open_int Try.underlying5 (hval 0 5 v0 rfl rfl) h0
  have k1 := h1
  have lt1 : ∀ x ∈ p1, x.block < W.heap.size := by obtain ⟨m, hm⟩ := k1; exact DataW.trod_lt m _ _ _ hm
  obtain ⟨b, d, p, rfl, hip, hwp, hmp⟩ := open_intsW Try.underlying22 Try.underlying3 (by kernel_rfl) (hval 1 22 v1 rfl rfl) h1
  clear hA0 hval0
  refine (dealAll_walk n wfn b p.length d p W hip (by unfold maxLen at hmp; omega)).mono fun e W' ⟨he, bel⟩ => ?_
  subst he
  exact ⟨_, rfl, _, _, _, [], _, [], hW', trodAll_mk1 (shut_bool Try.underlying4 _), (trodAll_cons_mk (Below.trod dealAll_laidOut (by kernel_rfl) (of_decide_eq_true (by kernel_rfl)) k0 bel lt0) (trodAll_cons_mk (Below.trod dealAll_laidOut (by kernel_rfl) (of_decide_eq_true (by kernel_rfl)) k1 bel lt1) trodAll_mk0)), rfl, bel.frame _, fun h => by cases h⟩

theorem dealAll_over : Rows.dealAllRow.holds Try.pinned (OpenSpec.ofChange Rows.dealAllSpec) :=
  OpenClaim.holds_of_wide 5 Try.f5 rfl rfl rfl rfl rfl rfl rfl ⟨rfl, rfl, rfl, rfl, rfl⟩ rfl rfl rfl rfl rfl (by kernel_rfl) Try.func5 (by kernel_rfl)
    (of_decide_eq_true (by kernel_rfl)) (by unfold Func.isWrapper; first | (rw [if_pos (by decide +kernel)]; kernel_rfl) | (rw [if_neg (by decide +kernel)]; exact ⟨rfl, rfl⟩))
    (fun os started H enc _ => dealAll_lifted os started H enc)

/-- The statement. -/
theorem dealAll_holds : Rows.DealAllSaid := dealAll_over
#print axioms dealAll_holds
end Go.Proofs.Ytcehclagipdleaa
