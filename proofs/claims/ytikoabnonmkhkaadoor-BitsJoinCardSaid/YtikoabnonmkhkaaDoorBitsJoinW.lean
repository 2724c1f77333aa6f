/- The walk of BitsJoin. -/
import Derived.Test.YtikoabnonmkhkaaDoorBitsR
namespace Go.Proofs.YtikoabnonmkhkaaDoor
open Go.RowKit

def DJoin2 : List (Option Nat) := [some 11, some 12, some 13, some 14, some 7, some 8]
def TLJoin2 (a b c d a2 b2 c2 d2 : Nat) : List TyB := [
  .is (.agg #[.int .u64 a, .int .u64 b, .int .u64 c, .int .u64 d]),
  .ints (lst [a, b, c, d]),
  .is (.agg #[.int .u64 a2, .int .u64 b2, .int .u64 c2, .int .u64 d2]),
  .ints (lst [a2, b2, c2, d2])]
def DJoin3 : List (Option Nat) := [some 15, some 16, some 17, some 18, some 19, some 20, some 21, some 22, some 23, some 24, some 25, some 26, some 27, some 28, some 29, some 30, some 31, some 32, some 33, some 34, some 35, some 36, some 37, some 38, some 39, some 40, some 41, some 42, some 43, some 44, some 45, some 4]
def TLJoin3 (a b c d a2 b2 c2 d2 : Nat) (vl vm : Value) : List TyB := [
  .is (.agg #[.int .u64 a, .int .u64 b, .int .u64 c, .int .u64 d]),
  .is (.agg #[.int .u64 a2, .int .u64 b2, .int .u64 c2, .int .u64 d2]),
  .is (svL (andB [a, b, c, d] [a2, b2, c2, d2])),
  .is (vl),
  .is (vm),
  .ints ((lst [a, b, c, d]).filter (fun x : Nat => decide ((x : Int) ∈ zl (lst [a2, b2, c2, d2])))),
  .is (svL (andB [a, b, c, d] [a2, b2, c2, d2])),
  .is (.bool true),
  .is (.bool true),
  .is (.agg #[.int .u64 a, .int .u64 b, .int .u64 c, .int .u64 d]),
  .is (.agg #[.int .u64 a2, .int .u64 b2, .int .u64 c2, .int .u64 d2]),
  .is (svL (orB [a, b, c, d] [a2, b2, c2, d2])),
  .is (vl),
  .is (vm),
  .rows (fun M => M.length ≤ 1000 ∧ ∀ x : Nat, x ∈ M ↔ x ∈ lst [a, b, c, d] ∨ (x ∈ lst [a2, b2, c2, d2] ∧ x < 256)),
  .is (svL (orB [a, b, c, d] [a2, b2, c2, d2])),
  .is (.bool true),
  .is (.bool true),
  .is (.bool true),
  .is (.agg #[.int .u64 a, .int .u64 b, .int .u64 c, .int .u64 d]),
  .is (.agg #[.int .u64 a2, .int .u64 b2, .int .u64 c2, .int .u64 d2]),
  .is (svL (minusB [a, b, c, d] [a2, b2, c2, d2])),
  .is (vl),
  .is (vm),
  .ints ((lst [a, b, c, d]).filter (fun x : Nat => !decide ((x : Int) ∈ zl (lst [a2, b2, c2, d2])))),
  .is (svL (minusB [a, b, c, d] [a2, b2, c2, d2])),
  .is (.bool true),
  .is (.bool true),
  .is (.bool true),
  .is (.bool true),
  .is (.bool true),
  .is (.bool true)]
set_option maxRecDepth 100000 in
set_option maxHeartbeats 8000000 in
theorem join_walk {a b c d a2 b2 c2 d2 : Nat} (hwf : wfB [a, b, c, d]) (hwf2 : wfB [a2, b2, c2, d2]) (w : World) (hT : TabAt w) (h0 : 0 < w.heap.size) : Calls Tryd.prog 4 #[.agg #[.int .u64 a, .int .u64 b, .int .u64 c, .int .u64 d], .agg #[.int .u64 a2, .int .u64 b2, .int .u64 c2, .int .u64 d2]] w fun e w' => e = .returned (.bool true) ∧ Below w.heap.size w w' := by
  have HWF := Lib.hid (And.intro hwf hwf2)
  have HTT := Lib.hid (And.intro hT h0)
  clear hwf hwf2 hT h0
  go_enter Tryd.func4, Tryd.ntmps4
  go_upto_region 1 with fail
  have hA0 : Arr ((w.alloc (.cells #[.int .u64 a, .int .u64 b, .int .u64 c, .int .u64 d] 23)).alloc (.cells #[.int .u64 a2, .int .u64 b2, .int .u64 c2, .int .u64 d2] 23)) w.heap.size 23 [.int .u64 a, .int .u64 b, .int .u64 c, .int .u64 d] := (Arr.new w _ _).alloc _
  have hB0 : Arr ((w.alloc (.cells #[.int .u64 a, .int .u64 b, .int .u64 c, .int .u64 d] 23)).alloc (.cells #[.int .u64 a2, .int .u64 b2, .int .u64 c2, .int .u64 d2] 23)) (w.heap.size + 1) 23 [.int .u64 a2, .int .u64 b2, .int .u64 c2, .int .u64 d2] := by
    have := Arr.new (w.alloc (.cells #[.int .u64 a, .int .u64 b, .int .u64 c, .int .u64 d] 23)) 23 [.int .u64 a2, .int .u64 b2, .int .u64 c2, .int .u64 d2]
    simp only [World.size_alloc] at this
    exact this
  have hbl0 : Below w.heap.size w ((w.alloc (.cells #[.int .u64 a, .int .u64 b, .int .u64 c, .int .u64 d] 23)).alloc (.cells #[.int .u64 a2, .int .u64 b2, .int .u64 c2, .int .u64 d2] 23)) := fb_alloc (fb_alloc (Below.refl _ w) _) _
  generalize ((w.alloc (.cells #[.int .u64 a, .int .u64 b, .int .u64 c, .int .u64 d] 23)).alloc (.cells #[.int .u64 a2, .int .u64 b2, .int .u64 c2, .int .u64 d2] 23)) = wk at *
  have HZ := Lib.hid (And.intro hA0 (And.intro hB0 hbl0))
  clear hA0 hB0 hbl0
  go_cut [5, 6, 9, 10] (fun s5 s6 _ _ wx => ∃ S T : Nat, s5 = .pointer (some ⟨S, 0, none⟩) ∧ s6 = .pointer (some ⟨T, 0, none⟩) ∧ Arr wx S 24 [.int .u64 a, .int .u64 b, .int .u64 c, .int .u64 d] ∧ Arr wx T 24 [.int .u64 a2, .int .u64 b2, .int .u64 c2, .int .u64 d2] ∧ Below wk.heap.size wk wx)
  case first =>
    have c0 : wk.cell? ⟨w.heap.size, 0, none⟩ = _ := HZ.out.1.cell 0
    have c1 : wk.cell? ⟨w.heap.size, 1, none⟩ = _ := HZ.out.1.cell 1
    have c2_ : wk.cell? ⟨w.heap.size, 2, none⟩ = _ := HZ.out.1.cell 2
    have c3 : wk.cell? ⟨w.heap.size, 3, none⟩ = _ := HZ.out.1.cell 3
    have k0 : wk.cell? ⟨w.heap.size + 1, 0, none⟩ = _ := HZ.out.2.1.cell 0
    have k1 : wk.cell? ⟨w.heap.size + 1, 1, none⟩ = _ := HZ.out.2.1.cell 1
    have k2 : wk.cell? ⟨w.heap.size + 1, 2, none⟩ = _ := HZ.out.2.1.cell 2
    have k3 : wk.cell? ⟨w.heap.size + 1, 3, none⟩ = _ := HZ.out.2.1.cell 3
    have hlt : w.heap.size < wk.heap.size := HZ.out.1.lt
    have hlt2 : w.heap.size + 1 < wk.heap.size := HZ.out.2.1.lt
    simp only [List.getElem?_cons_zero, List.getElem?_cons_succ] at c0 c1 c2_ c3 k0 k1 k2 k3
    go_region
    all_goals (go_wp2_with fail; go_meet)
    all_goals exact ⟨_, _, rfl, rfl, (by first | exact arr2a _ _ _ _ | exact arr2b _ _ _ _), (by first | exact arr2a _ _ _ _ | exact arr2b _ _ _ _), fb_drew (fb_alloc (fb_alloc (Below.refl _ _) _) _)⟩
  case rest =>
    obtain ⟨S, T, rfl, rfl, hSA, hTA, hbk⟩ := hcut
    have hA := HZ.out.1.below hbk HZ.out.1.lt
    have hB := HZ.out.2.1.below hbk HZ.out.2.1.lt
    have hbl := fb_call HZ.out.2.2 hbk
    have hS0 : StB wc wc := ⟨Below.refl _ _, HTT.out.1.below HTT.out.2 hbl, Nat.lt_of_lt_of_le HTT.out.2 hbl.size⟩
    have HBL := Lib.hid hbl
    clear hbl hbk HZ
    go_upto_region 2 with fail
    refine wp_gen fun a0 w0 ha0 hw0 => ?_
    subst hw0
    have z : a0.tmps.size = 46 := by rw [ha0]; rfl
    have d0 : a0.defers = [] := by rw [ha0]
    have e2 : a0.tmps[2]? = some (.pointer (some ⟨w.heap.size, 0, none⟩)) := by rw [ha0]; rfl
    have e3 : a0.tmps[3]? = some (.pointer (some ⟨w.heap.size + 1, 0, none⟩)) := by rw [ha0]; rfl
    have e5 : a0.tmps[5]? = some (.pointer (some ⟨S, 0, none⟩)) := by rw [ha0]; rfl
    have e6 : a0.tmps[6]? = some (.pointer (some ⟨T, 0, none⟩)) := by rw [ha0]; rfl
    clear ha0
    refine wp_region_typed_tail 4 DJoin2 [] (fun k_ v_ w_ => ((TLJoin2 a b c d a2 b2 c2 d2).getD k_ .any).ok v_ w_) (fun w w' => Below w.heap.size w w') (fun _ w => StB w0 w) (by kernel_rfl) (by kernel_rfl) (by kernel_rfl) (by rw [z]; kernel_rfl) (by kernel_rfl) (by kernel_rfl) (by kernel_rfl) (by decide) (fun _ _ _ _ h hr => TyB.mono _ _ _ _ h hr) (fun _ h => hS0.first h) (steps_of ?_) ?_
    · clear hS0
      refine steps_cons (not_ch (by kernel_rfl) fun _n act w K hS hd ham hdep hK => ?_) ?_
      · skip
        have h2 := (ham 2 (by kernel_rfl)).trans e2
        have HK := Lib.hid hK
        have HS := Lib.hid hS
        clear hK ham hdep hS hd
        refine go_plain rfl ?_
        obtain ⟨c0, c1, c2_, c3⟩ := cellsK hA HS.out.1
        go_simp
        exact HK.out _ w (Below.refl _ _) HS.out rfl
      refine steps_cons (not_ch (by kernel_rfl) fun _n act w K hS hd ham hdep hK => ?_) ?_
      · skip
        obtain ⟨x11, h11, t11⟩ := hdep ⟨0, .data⟩ (by simp) rfl 11 rfl
        rw [show x11 = .agg #[.int .u64 a, .int .u64 b, .int .u64 c, .int .u64 d] from t11] at h11
        clear t11
        have HK := Lib.hid hK
        have HS := Lib.hid hS
        clear hK ham hdep hS hd
        refine go_plain rfl ?_
        go_simp
        refine (rof_any HWF.out.1 w).mono ?_
        rintro e w' ⟨v, rfl, hI, hb⟩
        exact HK.out _ w' hb (StB.bel HS.out hb) hI
      refine steps_cons (not_ch (by kernel_rfl) fun _n act w K hS hd ham hdep hK => ?_) ?_
      · skip
        have h3 := (ham 3 (by kernel_rfl)).trans e3
        have HK := Lib.hid hK
        have HS := Lib.hid hS
        clear hK ham hdep hS hd
        refine go_plain rfl ?_
        obtain ⟨c0, c1, c2_, c3⟩ := cellsK hB HS.out.1
        go_simp
        exact HK.out _ w (Below.refl _ _) HS.out rfl
      refine steps_cons (not_ch (by kernel_rfl) fun _n act w K hS hd ham hdep hK => ?_) ?_
      · skip
        obtain ⟨x13, h13, t13⟩ := hdep ⟨2, .data⟩ (by simp) rfl 13 rfl
        rw [show x13 = .agg #[.int .u64 a2, .int .u64 b2, .int .u64 c2, .int .u64 d2] from t13] at h13
        clear t13
        have HK := Lib.hid hK
        have HS := Lib.hid hS
        clear hK ham hdep hS hd
        refine go_plain rfl ?_
        go_simp
        refine (rof_any HWF.out.2 w).mono ?_
        rintro e w' ⟨v, rfl, hI, hb⟩
        exact HK.out _ w' hb (StB.bel HS.out hb) hI
      exact steps_done 4 (by omega)
    · intro vs a1 w1 hF hty hS
      have hI : Ints w1 w1.heap.size (vs 1) (zl (lst [a, b, c, d])) := hty 1 (by decide)
      have hI2 : Ints w1 w1.heap.size (vs 3) (zl (lst [a2, b2, c2, d2])) := hty 3 (by decide)
      have h12 := hF.mine 1 12 (by kernel_rfl) (by kernel_rfl)
      have h14 := hF.mine 3 14 (by kernel_rfl) (by kernel_rfl)
      obtain ⟨vl, hvl⟩ : ∃ vl, vs 1 = vl := ⟨_, rfl⟩
      obtain ⟨vm, hvm⟩ : ∃ vm, vs 3 = vm := ⟨_, rfl⟩
      rw [hvl] at h12 hI
      rw [hvm] at h14 hI2
      have k5 := (hF.amb [some 11, some 12, some 13, some 14] (by kernel_rfl) 5 (by kernel_rfl)).trans e5
      have k6 := (hF.amb [some 11, some 12, some 13, some 14] (by kernel_rfl) 6 (by kernel_rfl)).trans e6
      have z1 := hF.size.trans z
      have d1 := hF.defers.trans d0
      have hbl1 := fb_call HBL.out hS.1
      have hSA := hSA.below hS.1 hSA.lt
      have hTA := hTA.below hS.1 hTA.lt
      have HX := Lib.hid (And.intro hbl1 (And.intro hSA (And.intro hTA (And.intro hI (And.intro hI2 z1)))))
      obtain ⟨tm, df⟩ := a1
      obtain rfl : df = [] := d1
      clear hF hty hS hbl1 hSA hTA hA hB hI hI2 hS0 hvl hvm e2 e3 e5 e6 z d0 HBL z1
      simp only [List.drop_succ_cons, List.drop_zero]
      go_upto_region 3 with fail
      refine wp_gen fun a0 w2 ha0 hw2 => ?_
      subst hw2
      obtain ⟨hbl, hSA, hTA, hI, hI2, z1⟩ := HX.out
      have hS0 : StB w2 w2 := ⟨Below.refl _ _, HTT.out.1.below HTT.out.2 hbl, Nat.lt_of_lt_of_le HTT.out.2 hbl.size⟩
      have z1' : tm.size = 46 := z1
      have z : a0.tmps.size = 46 := by rw [ha0]; simpa using z1'
      have d0 : a0.defers = [] := by rw [ha0]
      have e5 : a0.tmps[5]? = some (.pointer (some ⟨S, 0, none⟩)) := by rw [ha0]; simpa using k5
      have e6 : a0.tmps[6]? = some (.pointer (some ⟨T, 0, none⟩)) := by rw [ha0]; simpa using k6
      have e7 : a0.tmps[7]? = some vl := by rw [ha0]; simp [z1']
      have e8 : a0.tmps[8]? = some vm := by rw [ha0]; simp [z1']
      have HBL := Lib.hid hbl
      clear ha0 hbl HX h12 h14 k5 k6 z1 z1' HTT
      refine wp_region_typed 32 DJoin3 [] (fun k_ v_ w_ => ((TLJoin3 a b c d a2 b2 c2 d2 vl vm).getD k_ .any).ok v_ w_) (fun w w' => Below w.heap.size w w') (fun _ w => StB w2 w) (by kernel_rfl) (by kernel_rfl) (by kernel_rfl) (by kernel_rfl) (by rw [z]; kernel_rfl) (by kernel_rfl) (by kernel_rfl) (fun _ _ _ _ h hr => TyB.mono _ _ _ _ h hr) (fun _ h => hS0.first h) (steps_of ?_) ?_
      · clear hS0
        refine steps_cons (not_ch (by kernel_rfl) fun _n act w K hS hd ham hdep hK => ?_) ?_
        · skip
          have h5 := (ham 5 (by kernel_rfl)).trans e5
          have HK := Lib.hid hK
          have HS := Lib.hid hS
          clear hK ham hdep hS hd
          refine go_plain rfl ?_
          obtain ⟨c0, c1, c2_, c3⟩ := cellsK hSA HS.out.1
          go_simp
          exact HK.out _ w (Below.refl _ _) HS.out rfl
        refine steps_cons (not_ch (by kernel_rfl) fun _n act w K hS hd ham hdep hK => ?_) ?_
        · skip
          have h6 := (ham 6 (by kernel_rfl)).trans e6
          have HK := Lib.hid hK
          have HS := Lib.hid hS
          clear hK ham hdep hS hd
          refine go_plain rfl ?_
          obtain ⟨c0, c1, c2_, c3⟩ := cellsK hTA HS.out.1
          go_simp
          exact HK.out _ w (Below.refl _ _) HS.out rfl
        refine steps_cons (not_ch (by kernel_rfl) fun _n act w K hS hd ham hdep hK => ?_) ?_
        · skip
          obtain ⟨x15, h15, t15⟩ := hdep ⟨0, .data⟩ (by simp) rfl 15 rfl
          rw [show x15 = .agg #[.int .u64 a, .int .u64 b, .int .u64 c, .int .u64 d] from t15] at h15
          clear t15
          obtain ⟨x16, h16, t16⟩ := hdep ⟨1, .data⟩ (by simp) rfl 16 rfl
          rw [show x16 = .agg #[.int .u64 a2, .int .u64 b2, .int .u64 c2, .int .u64 d2] from t16] at h16
          clear t16
          have HK := Lib.hid hK
          have HS := Lib.hid hS
          clear hK ham hdep hS hd
          refine go_plain rfl ?_
          go_simp
          refine (band_any HWF.out.1 HWF.out.2 w).mono ?_
          rintro e w' ⟨rfl, hb⟩
          exact HK.out _ w' hb (StB.bel HS.out hb) rfl
        refine steps_cons (not_ch (by kernel_rfl) fun _n act w K hS hd ham hdep hK => ?_) ?_
        · skip
          have h7 := (ham 7 (by kernel_rfl)).trans e7
          have HK := Lib.hid hK
          have HS := Lib.hid hS
          clear hK ham hdep hS hd
          refine go_plain rfl ?_
          go_simp
          exact HK.out _ w (Below.refl _ _) HS.out rfl
        refine steps_cons (not_ch (by kernel_rfl) fun _n act w K hS hd ham hdep hK => ?_) ?_
        · skip
          have h8 := (ham 8 (by kernel_rfl)).trans e8
          have HK := Lib.hid hK
          have HS := Lib.hid hS
          clear hK ham hdep hS hd
          refine go_plain rfl ?_
          go_simp
          exact HK.out _ w (Below.refl _ _) HS.out rfl
        refine steps_cons (not_ch (by kernel_rfl) fun _n act w K hS hd ham hdep hK => ?_) ?_
        · skip
          obtain ⟨x18, h18, t18⟩ := hdep ⟨3, .data⟩ (by simp) rfl 18 rfl
          rw [show x18 = vl from t18] at h18
          clear t18
          obtain ⟨x19, h19, t19⟩ := hdep ⟨4, .data⟩ (by simp) rfl 19 rfl
          rw [show x19 = vm from t19] at h19
          clear t19
          have HK := Lib.hid hK
          have HS := Lib.hid hS
          clear hK ham hdep hS hd
          refine go_plain rfl ?_
          go_simp
          refine (rand_any vl (lst [a, b, c, d]) vm (lst [a2, b2, c2, d2]) w (ints_later hI HS.out.1) (Nat.le_trans (lst_le _) (by omega)) (ints_later hI2 HS.out.1) (Nat.le_trans (lst_le _) (by omega))).mono ?_
          rintro e w' ⟨u, rfl, hI, hb⟩
          exact HK.out _ w' hb (StB.bel HS.out hb) hI
        refine steps_cons (not_ch (by kernel_rfl) fun _n act w K hS hd ham hdep hK => ?_) ?_
        · skip
          obtain ⟨x20, h20, t20⟩ := hdep ⟨5, .data⟩ (by simp) rfl 20 rfl
          have t20 := Lib.hid t20
          have HK := Lib.hid hK
          have HS := Lib.hid hS
          clear hK ham hdep hS hd
          refine go_plain rfl ?_
          go_simp
          refine (rwords_any _ _ w t20.out (filter_le _ _) (words_and HWF.out.1 HWF.out.2).1).mono ?_
          rintro e w' ⟨rfl, hb⟩
          exact HK.out _ w' hb (StB.bel HS.out hb) (by rw [← (words_and HWF.out.1 HWF.out.2).2]; rfl)
        refine steps_cons (not_ch (by kernel_rfl) fun _n act w K hS hd ham hdep hK => ?_) ?_
        · skip
          obtain ⟨x17, h17, t17⟩ := hdep ⟨2, .data⟩ (by simp) rfl 17 rfl
          rw [show x17 = svL (andB [a, b, c, d] [a2, b2, c2, d2]) from t17] at h17
          clear t17
          obtain ⟨x21, h21, t21⟩ := hdep ⟨6, .data⟩ (by simp) rfl 21 rfl
          rw [show x21 = svL (andB [a, b, c, d] [a2, b2, c2, d2]) from t21] at h21
          clear t21
          have HK := Lib.hid hK
          have HS := Lib.hid hS
          clear hK ham hdep hS hd
          refine go_plain rfl ?_
          obtain ⟨p0, p1, p2, p3, hp, _⟩ := wf_form (wf_and HWF.out.1 HWF.out.2)
          rw [show (svL (andB [a, b, c, d] [a2, b2, c2, d2]) : Value) = .agg #[.int .u64 p0, .int .u64 p1, .int .u64 p2, .int .u64 p3] from by rw [show andB [a, b, c, d] [a2, b2, c2, d2] = andB [a, b, c, d] [a2, b2, c2, d2] from rfl, hp]; rfl] at h17
          rw [show (svL (andB [a, b, c, d] [a2, b2, c2, d2]) : Value) = .agg #[.int .u64 p0, .int .u64 p1, .int .u64 p2, .int .u64 p3] from by show svL (andB [a, b, c, d] [a2, b2, c2, d2]) = _; rw [hp]; rfl] at h21
          clear hp
          go_simp
          exact HK.out _ w (Below.refl _ _) HS.out rfl
        refine steps_cons (not_ch (by kernel_rfl) fun _n act w K hS hd ham hdep hK => ?_) ?_
        · skip
          obtain ⟨x22, h22, t22⟩ := hdep ⟨7, .data⟩ (by simp) rfl 22 rfl
          rw [show x22 = .bool true from t22] at h22
          clear t22
          have HK := Lib.hid hK
          have HS := Lib.hid hS
          clear hK ham hdep hS hd
          refine go_plain rfl ?_
          go_simp
          exact HK.out _ w (Below.refl _ _) HS.out rfl
        refine steps_cons (not_ch (by kernel_rfl) fun _n act w K hS hd ham hdep hK => ?_) ?_
        · skip
          have h5 := (ham 5 (by kernel_rfl)).trans e5
          obtain ⟨x23, h23, t23⟩ := hdep ⟨8, .guard⟩ (by simp) rfl 23 rfl
          rw [show x23 = .bool true from t23] at h23
          clear t23
          have HK := Lib.hid hK
          have HS := Lib.hid hS
          clear hK ham hdep hS hd
          refine go_guard 8 23 true rfl rfl h23 ?_
          obtain ⟨c0, c1, c2_, c3⟩ := cellsK hSA HS.out.1
          go_simp
          exact HK.out _ w (Below.refl _ _) HS.out rfl
        refine steps_cons (not_ch (by kernel_rfl) fun _n act w K hS hd ham hdep hK => ?_) ?_
        · skip
          have h6 := (ham 6 (by kernel_rfl)).trans e6
          obtain ⟨x23, h23, t23⟩ := hdep ⟨8, .guard⟩ (by simp) rfl 23 rfl
          rw [show x23 = .bool true from t23] at h23
          clear t23
          have HK := Lib.hid hK
          have HS := Lib.hid hS
          clear hK ham hdep hS hd
          refine go_guard 8 23 true rfl rfl h23 ?_
          obtain ⟨c0, c1, c2_, c3⟩ := cellsK hTA HS.out.1
          go_simp
          exact HK.out _ w (Below.refl _ _) HS.out rfl
        refine steps_cons (not_ch (by kernel_rfl) fun _n act w K hS hd ham hdep hK => ?_) ?_
        · skip
          obtain ⟨x23, h23, t23⟩ := hdep ⟨8, .chain⟩ (by simp) rfl 23 rfl
          rw [show x23 = .bool true from t23] at h23
          clear t23
          obtain ⟨x24, h24, t24⟩ := hdep ⟨9, .data⟩ (by simp) rfl 24 rfl
          rw [show x24 = .agg #[.int .u64 a, .int .u64 b, .int .u64 c, .int .u64 d] from t24] at h24
          clear t24
          obtain ⟨x25, h25, t25⟩ := hdep ⟨10, .data⟩ (by simp) rfl 25 rfl
          rw [show x25 = .agg #[.int .u64 a2, .int .u64 b2, .int .u64 c2, .int .u64 d2] from t25] at h25
          clear t25
          have HK := Lib.hid hK
          have HS := Lib.hid hS
          clear hK ham hdep hS hd
          refine go_guard 8 23 true rfl rfl h23 ?_
          go_simp
          refine (bor_any HWF.out.1 HWF.out.2 w).mono ?_
          rintro e w' ⟨rfl, hb⟩
          exact HK.out _ w' hb (StB.bel HS.out hb) rfl
        refine steps_cons (not_ch (by kernel_rfl) fun _n act w K hS hd ham hdep hK => ?_) ?_
        · skip
          have h7 := (ham 7 (by kernel_rfl)).trans e7
          obtain ⟨x23, h23, t23⟩ := hdep ⟨8, .guard⟩ (by simp) rfl 23 rfl
          rw [show x23 = .bool true from t23] at h23
          clear t23
          have HK := Lib.hid hK
          have HS := Lib.hid hS
          clear hK ham hdep hS hd
          refine go_guard 8 23 true rfl rfl h23 ?_
          go_simp
          exact HK.out _ w (Below.refl _ _) HS.out rfl
        refine steps_cons (not_ch (by kernel_rfl) fun _n act w K hS hd ham hdep hK => ?_) ?_
        · skip
          have h8 := (ham 8 (by kernel_rfl)).trans e8
          obtain ⟨x23, h23, t23⟩ := hdep ⟨8, .guard⟩ (by simp) rfl 23 rfl
          rw [show x23 = .bool true from t23] at h23
          clear t23
          have HK := Lib.hid hK
          have HS := Lib.hid hS
          clear hK ham hdep hS hd
          refine go_guard 8 23 true rfl rfl h23 ?_
          go_simp
          exact HK.out _ w (Below.refl _ _) HS.out rfl
        refine steps_cons (not_ch (by kernel_rfl) fun _n act w K hS hd ham hdep hK => ?_) ?_
        · skip
          obtain ⟨x23, h23, t23⟩ := hdep ⟨8, .guard⟩ (by simp) rfl 23 rfl
          rw [show x23 = .bool true from t23] at h23
          clear t23
          obtain ⟨x27, h27, t27⟩ := hdep ⟨12, .data⟩ (by simp) rfl 27 rfl
          rw [show x27 = vl from t27] at h27
          clear t27
          obtain ⟨x28, h28, t28⟩ := hdep ⟨13, .data⟩ (by simp) rfl 28 rfl
          rw [show x28 = vm from t28] at h28
          clear t28
          have HK := Lib.hid hK
          have HS := Lib.hid hS
          clear hK ham hdep hS hd
          refine go_guard 8 23 true rfl rfl h23 ?_
          go_simp
          refine (ror_any vl (lst [a, b, c, d]) vm (lst [a2, b2, c2, d2]) w (ints_later hI HS.out.1) (Nat.le_trans (lst_le _) (by omega)) (ints_later hI2 HS.out.1) (Nat.le_trans (lst_le _) (by omega))).mono ?_
          rintro e w' ⟨u, M, rfl, hI, hb, hl, hm⟩
          exact HK.out _ w' hb (StB.bel HS.out hb) ⟨M, ⟨Nat.le_trans hl (by have := lst_le [a, b, c, d]; have := lst_le [a2, b2, c2, d2]; omega), hm⟩, hI⟩
        refine steps_cons (not_ch (by kernel_rfl) fun _n act w K hS hd ham hdep hK => ?_) ?_
        · skip
          obtain ⟨x23, h23, t23⟩ := hdep ⟨8, .guard⟩ (by simp) rfl 23 rfl
          rw [show x23 = .bool true from t23] at h23
          clear t23
          obtain ⟨x29, h29, t29⟩ := hdep ⟨14, .data⟩ (by simp) rfl 29 rfl
          have t29 := Lib.hid t29
          have HK := Lib.hid hK
          have HS := Lib.hid hS
          clear hK ham hdep hS hd
          refine go_guard 8 23 true rfl rfl h23 ?_
          obtain ⟨M, ⟨hl, hm⟩, hI⟩ := t29.out
          go_simp
          refine (rwords_any _ M w hI hl (words_or HWF.out.1 HWF.out.2 hm).1).mono ?_
          rintro e w' ⟨rfl, hb⟩
          exact HK.out _ w' hb (StB.bel HS.out hb) (by rw [← (words_or HWF.out.1 HWF.out.2 hm).2]; rfl)
        refine steps_cons (not_ch (by kernel_rfl) fun _n act w K hS hd ham hdep hK => ?_) ?_
        · skip
          obtain ⟨x23, h23, t23⟩ := hdep ⟨8, .guard⟩ (by simp) rfl 23 rfl
          rw [show x23 = .bool true from t23] at h23
          clear t23
          obtain ⟨x26, h26, t26⟩ := hdep ⟨11, .data⟩ (by simp) rfl 26 rfl
          rw [show x26 = svL (orB [a, b, c, d] [a2, b2, c2, d2]) from t26] at h26
          clear t26
          obtain ⟨x30, h30, t30⟩ := hdep ⟨15, .data⟩ (by simp) rfl 30 rfl
          rw [show x30 = svL (orB [a, b, c, d] [a2, b2, c2, d2]) from t30] at h30
          clear t30
          have HK := Lib.hid hK
          have HS := Lib.hid hS
          clear hK ham hdep hS hd
          refine go_guard 8 23 true rfl rfl h23 ?_
          obtain ⟨p0, p1, p2, p3, hp, _⟩ := wf_form (wf_or HWF.out.1 HWF.out.2)
          rw [show (svL (orB [a, b, c, d] [a2, b2, c2, d2]) : Value) = .agg #[.int .u64 p0, .int .u64 p1, .int .u64 p2, .int .u64 p3] from by rw [show orB [a, b, c, d] [a2, b2, c2, d2] = orB [a, b, c, d] [a2, b2, c2, d2] from rfl, hp]; rfl] at h26
          rw [show (svL (orB [a, b, c, d] [a2, b2, c2, d2]) : Value) = .agg #[.int .u64 p0, .int .u64 p1, .int .u64 p2, .int .u64 p3] from by show svL (orB [a, b, c, d] [a2, b2, c2, d2]) = _; rw [hp]; rfl] at h30
          clear hp
          go_simp
          exact HK.out _ w (Below.refl _ _) HS.out rfl
        refine steps_cons (not_ch (by kernel_rfl) fun _n act w K hS hd ham hdep hK => ?_) ?_
        · skip
          obtain ⟨x23, h23, t23⟩ := hdep ⟨8, .data⟩ (by simp) rfl 23 rfl
          rw [show x23 = .bool true from t23] at h23
          clear t23
          obtain ⟨x31, h31, t31⟩ := hdep ⟨16, .data⟩ (by simp) rfl 31 rfl
          rw [show x31 = .bool true from t31] at h31
          clear t31
          have HK := Lib.hid hK
          have HS := Lib.hid hS
          clear hK ham hdep hS hd
          refine go_plain rfl ?_
          go_simp
          exact HK.out _ w (Below.refl _ _) HS.out rfl
        refine steps_cons (not_ch (by kernel_rfl) fun _n act w K hS hd ham hdep hK => ?_) ?_
        · skip
          obtain ⟨x32, h32, t32⟩ := hdep ⟨17, .data⟩ (by simp) rfl 32 rfl
          rw [show x32 = .bool true from t32] at h32
          clear t32
          have HK := Lib.hid hK
          have HS := Lib.hid hS
          clear hK ham hdep hS hd
          refine go_plain rfl ?_
          go_simp
          exact HK.out _ w (Below.refl _ _) HS.out rfl
        refine steps_cons (not_ch (by kernel_rfl) fun _n act w K hS hd ham hdep hK => ?_) ?_
        · skip
          have h5 := (ham 5 (by kernel_rfl)).trans e5
          obtain ⟨x33, h33, t33⟩ := hdep ⟨18, .guard⟩ (by simp) rfl 33 rfl
          rw [show x33 = .bool true from t33] at h33
          clear t33
          have HK := Lib.hid hK
          have HS := Lib.hid hS
          clear hK ham hdep hS hd
          refine go_guard 18 33 true rfl rfl h33 ?_
          obtain ⟨c0, c1, c2_, c3⟩ := cellsK hSA HS.out.1
          go_simp
          exact HK.out _ w (Below.refl _ _) HS.out rfl
        refine steps_cons (not_ch (by kernel_rfl) fun _n act w K hS hd ham hdep hK => ?_) ?_
        · skip
          have h6 := (ham 6 (by kernel_rfl)).trans e6
          obtain ⟨x33, h33, t33⟩ := hdep ⟨18, .guard⟩ (by simp) rfl 33 rfl
          rw [show x33 = .bool true from t33] at h33
          clear t33
          have HK := Lib.hid hK
          have HS := Lib.hid hS
          clear hK ham hdep hS hd
          refine go_guard 18 33 true rfl rfl h33 ?_
          obtain ⟨c0, c1, c2_, c3⟩ := cellsK hTA HS.out.1
          go_simp
          exact HK.out _ w (Below.refl _ _) HS.out rfl
        refine steps_cons (not_ch (by kernel_rfl) fun _n act w K hS hd ham hdep hK => ?_) ?_
        · skip
          obtain ⟨x33, h33, t33⟩ := hdep ⟨18, .chain⟩ (by simp) rfl 33 rfl
          rw [show x33 = .bool true from t33] at h33
          clear t33
          obtain ⟨x34, h34, t34⟩ := hdep ⟨19, .data⟩ (by simp) rfl 34 rfl
          rw [show x34 = .agg #[.int .u64 a, .int .u64 b, .int .u64 c, .int .u64 d] from t34] at h34
          clear t34
          obtain ⟨x35, h35, t35⟩ := hdep ⟨20, .data⟩ (by simp) rfl 35 rfl
          rw [show x35 = .agg #[.int .u64 a2, .int .u64 b2, .int .u64 c2, .int .u64 d2] from t35] at h35
          clear t35
          have HK := Lib.hid hK
          have HS := Lib.hid hS
          clear hK ham hdep hS hd
          refine go_guard 18 33 true rfl rfl h33 ?_
          go_simp
          refine (bminus_any HWF.out.1 HWF.out.2 w).mono ?_
          rintro e w' ⟨rfl, hb⟩
          exact HK.out _ w' hb (StB.bel HS.out hb) rfl
        refine steps_cons (not_ch (by kernel_rfl) fun _n act w K hS hd ham hdep hK => ?_) ?_
        · skip
          have h7 := (ham 7 (by kernel_rfl)).trans e7
          obtain ⟨x33, h33, t33⟩ := hdep ⟨18, .guard⟩ (by simp) rfl 33 rfl
          rw [show x33 = .bool true from t33] at h33
          clear t33
          have HK := Lib.hid hK
          have HS := Lib.hid hS
          clear hK ham hdep hS hd
          refine go_guard 18 33 true rfl rfl h33 ?_
          go_simp
          exact HK.out _ w (Below.refl _ _) HS.out rfl
        refine steps_cons (not_ch (by kernel_rfl) fun _n act w K hS hd ham hdep hK => ?_) ?_
        · skip
          have h8 := (ham 8 (by kernel_rfl)).trans e8
          obtain ⟨x33, h33, t33⟩ := hdep ⟨18, .guard⟩ (by simp) rfl 33 rfl
          rw [show x33 = .bool true from t33] at h33
          clear t33
          have HK := Lib.hid hK
          have HS := Lib.hid hS
          clear hK ham hdep hS hd
          refine go_guard 18 33 true rfl rfl h33 ?_
          go_simp
          exact HK.out _ w (Below.refl _ _) HS.out rfl
        refine steps_cons (not_ch (by kernel_rfl) fun _n act w K hS hd ham hdep hK => ?_) ?_
        · skip
          obtain ⟨x33, h33, t33⟩ := hdep ⟨18, .guard⟩ (by simp) rfl 33 rfl
          rw [show x33 = .bool true from t33] at h33
          clear t33
          obtain ⟨x37, h37, t37⟩ := hdep ⟨22, .data⟩ (by simp) rfl 37 rfl
          rw [show x37 = vl from t37] at h37
          clear t37
          obtain ⟨x38, h38, t38⟩ := hdep ⟨23, .data⟩ (by simp) rfl 38 rfl
          rw [show x38 = vm from t38] at h38
          clear t38
          have HK := Lib.hid hK
          have HS := Lib.hid hS
          clear hK ham hdep hS hd
          refine go_guard 18 33 true rfl rfl h33 ?_
          go_simp
          refine (rminus_any vl (lst [a, b, c, d]) vm (lst [a2, b2, c2, d2]) w (ints_later hI HS.out.1) (Nat.le_trans (lst_le _) (by omega)) (ints_later hI2 HS.out.1) (Nat.le_trans (lst_le _) (by omega))).mono ?_
          rintro e w' ⟨u, rfl, hI, hb⟩
          exact HK.out _ w' hb (StB.bel HS.out hb) hI
        refine steps_cons (not_ch (by kernel_rfl) fun _n act w K hS hd ham hdep hK => ?_) ?_
        · skip
          obtain ⟨x33, h33, t33⟩ := hdep ⟨18, .guard⟩ (by simp) rfl 33 rfl
          rw [show x33 = .bool true from t33] at h33
          clear t33
          obtain ⟨x39, h39, t39⟩ := hdep ⟨24, .data⟩ (by simp) rfl 39 rfl
          have t39 := Lib.hid t39
          have HK := Lib.hid hK
          have HS := Lib.hid hS
          clear hK ham hdep hS hd
          refine go_guard 18 33 true rfl rfl h33 ?_
          go_simp
          refine (rwords_any _ _ w t39.out (filter_le _ _) (words_minus HWF.out.1 HWF.out.2).1).mono ?_
          rintro e w' ⟨rfl, hb⟩
          exact HK.out _ w' hb (StB.bel HS.out hb) (by rw [← (words_minus HWF.out.1 HWF.out.2).2]; rfl)
        refine steps_cons (not_ch (by kernel_rfl) fun _n act w K hS hd ham hdep hK => ?_) ?_
        · skip
          obtain ⟨x33, h33, t33⟩ := hdep ⟨18, .guard⟩ (by simp) rfl 33 rfl
          rw [show x33 = .bool true from t33] at h33
          clear t33
          obtain ⟨x36, h36, t36⟩ := hdep ⟨21, .data⟩ (by simp) rfl 36 rfl
          rw [show x36 = svL (minusB [a, b, c, d] [a2, b2, c2, d2]) from t36] at h36
          clear t36
          obtain ⟨x40, h40, t40⟩ := hdep ⟨25, .data⟩ (by simp) rfl 40 rfl
          rw [show x40 = svL (minusB [a, b, c, d] [a2, b2, c2, d2]) from t40] at h40
          clear t40
          have HK := Lib.hid hK
          have HS := Lib.hid hS
          clear hK ham hdep hS hd
          refine go_guard 18 33 true rfl rfl h33 ?_
          obtain ⟨p0, p1, p2, p3, hp, _⟩ := wf_form (wf_minus HWF.out.1 HWF.out.2)
          rw [show (svL (minusB [a, b, c, d] [a2, b2, c2, d2]) : Value) = .agg #[.int .u64 p0, .int .u64 p1, .int .u64 p2, .int .u64 p3] from by rw [show minusB [a, b, c, d] [a2, b2, c2, d2] = minusB [a, b, c, d] [a2, b2, c2, d2] from rfl, hp]; rfl] at h36
          rw [show (svL (minusB [a, b, c, d] [a2, b2, c2, d2]) : Value) = .agg #[.int .u64 p0, .int .u64 p1, .int .u64 p2, .int .u64 p3] from by show svL (minusB [a, b, c, d] [a2, b2, c2, d2]) = _; rw [hp]; rfl] at h40
          clear hp
          go_simp
          exact HK.out _ w (Below.refl _ _) HS.out rfl
        refine steps_cons (not_ch (by kernel_rfl) fun _n act w K hS hd ham hdep hK => ?_) ?_
        · skip
          obtain ⟨x33, h33, t33⟩ := hdep ⟨18, .data⟩ (by simp) rfl 33 rfl
          rw [show x33 = .bool true from t33] at h33
          clear t33
          obtain ⟨x41, h41, t41⟩ := hdep ⟨26, .data⟩ (by simp) rfl 41 rfl
          rw [show x41 = .bool true from t41] at h41
          clear t41
          have HK := Lib.hid hK
          have HS := Lib.hid hS
          clear hK ham hdep hS hd
          refine go_plain rfl ?_
          go_simp
          exact HK.out _ w (Below.refl _ _) HS.out rfl
        refine steps_cons (not_ch (by kernel_rfl) fun _n act w K hS hd ham hdep hK => ?_) ?_
        · skip
          obtain ⟨x42, h42, t42⟩ := hdep ⟨27, .data⟩ (by simp) rfl 42 rfl
          rw [show x42 = .bool true from t42] at h42
          clear t42
          have HK := Lib.hid hK
          have HS := Lib.hid hS
          clear hK ham hdep hS hd
          refine go_plain rfl ?_
          go_simp
          exact HK.out _ w (Below.refl _ _) HS.out rfl
        refine steps_cons (not_ch (by kernel_rfl) fun _n act w K hS hd ham hdep hK => ?_) ?_
        · skip
          obtain ⟨x43, h43, t43⟩ := hdep ⟨28, .chain⟩ (by simp) rfl 43 rfl
          rw [show x43 = .bool true from t43] at h43
          clear t43
          have HK := Lib.hid hK
          have HS := Lib.hid hS
          clear hK ham hdep hS hd
          refine go_guard 28 43 true rfl rfl h43 ?_
          go_simp
          refine (works_any w HS.out.2.1 HS.out.2.2).mono ?_
          rintro e w' ⟨rfl, hb⟩
          exact HK.out _ w' hb (StB.bel HS.out hb) rfl
        refine steps_cons (not_ch (by kernel_rfl) fun _n act w K hS hd ham hdep hK => ?_) ?_
        · skip
          obtain ⟨x43, h43, t43⟩ := hdep ⟨28, .data⟩ (by simp) rfl 43 rfl
          rw [show x43 = .bool true from t43] at h43
          clear t43
          obtain ⟨x44, h44, t44⟩ := hdep ⟨29, .data⟩ (by simp) rfl 44 rfl
          rw [show x44 = .bool true from t44] at h44
          clear t44
          have HK := Lib.hid hK
          have HS := Lib.hid hS
          clear hK ham hdep hS hd
          refine go_plain rfl ?_
          go_simp
          exact HK.out _ w (Below.refl _ _) HS.out rfl
        refine steps_cons (not_ch (by kernel_rfl) fun _n act w K hS hd ham hdep hK => ?_) ?_
        · skip
          obtain ⟨x45, h45, t45⟩ := hdep ⟨30, .data⟩ (by simp) rfl 45 rfl
          rw [show x45 = .bool true from t45] at h45
          clear t45
          have HK := Lib.hid hK
          have HS := Lib.hid hS
          clear hK ham hdep hS hd
          refine go_plain rfl ?_
          go_simp
          exact HK.out _ w (Below.refl _ _) HS.out rfl
        exact steps_done 32 (by omega)
      · intro vs a w' hF hty hS
        have hr := hF.mine 31 4 (by kernel_rfl) (by kernel_rfl)
        rw [show vs 31 = .bool true from hty 31 (by decide)] at hr
        have hd := hF.defers.trans d0
        have HX := Lib.hid (fb_call HBL.out hS.1)
        clear hF hty hS hS0
        obtain ⟨tm, df⟩ := a
        obtain rfl : df = [] := hd
        go_wp2
        exact bodyPost_ret (by simp [results, Tryd.results4, go_sem, hr]) rfl ⟨rfl, HX.out⟩
end Go.Proofs.YtikoabnonmkhkaaDoor
