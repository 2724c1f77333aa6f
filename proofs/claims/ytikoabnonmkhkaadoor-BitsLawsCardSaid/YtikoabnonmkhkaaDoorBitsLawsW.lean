/- The walk of BitsLaws. -/
import Derived.Test.YtikoabnonmkhkaaDoorBitsR
namespace Go.Proofs.YtikoabnonmkhkaaDoor
open Go.RowKit

def DLaws4 : List (Option Nat) := [some 12, some 13, some 14, some 7, none]
def TLLaws4 (n0 a b c d a2 b2 c2 d2 u0 u1 u2 u3 : Nat) : List TyB := [
  .is (.agg #[.int .u64 a, .int .u64 b, .int .u64 c, .int .u64 d]),
  .is (.agg #[.int .u64 a2, .int .u64 b2, .int .u64 c2, .int .u64 d2]),
  .is (.agg #[.int .u64 u0, .int .u64 u1, .int .u64 u2, .int .u64 u3]),
  .arr n0 24 [.int .u64 0, .int .u64 0, .int .u64 0, .int .u64 0]]
def DLaws5 : List (Option Nat) := [some 15, some 16, some 17, some 18, some 19, some 20, some 21, some 22, some 23, some 24, some 25, some 26, some 27, some 28, some 29, some 30, some 31, some 32, some 33, some 34, some 35, some 36, some 37, some 38, some 39, some 40, some 41, some 42, some 43, some 44, some 45, some 46, some 47, some 48, some 49, some 50, some 51, some 52, some 53, some 54, some 55, some 56, some 57, some 58, some 59, some 60, some 61, some 62, some 63, some 64, some 65, some 66, some 67, some 68, some 69, some 70, some 71, some 72, some 73, some 74, some 75, some 76, some 77, some 78, some 79, some 80, some 81, some 82, some 83, some 84, some 85, some 86, some 4]
def TLLaws5 (a b c d a2 b2 c2 d2 u0 u1 u2 u3 : Nat) : List TyB := [
  .is (.agg #[.int .u64 u0, .int .u64 u1, .int .u64 u2, .int .u64 u3]),
  .is (.agg #[.int .u64 a2, .int .u64 b2, .int .u64 c2, .int .u64 d2]),
  .is (.agg #[.int .u64 a, .int .u64 b, .int .u64 c, .int .u64 d]),
  .is (svL (orB ([a2, b2, c2, d2]) ([a, b, c, d]))),
  .is (.bool true),
  .is (.bool true),
  .is (.agg #[.int .u64 a, .int .u64 b, .int .u64 c, .int .u64 d]),
  .is (.agg #[.int .u64 a2, .int .u64 b2, .int .u64 c2, .int .u64 d2]),
  .is (svL (andB ([a, b, c, d]) ([a2, b2, c2, d2]))),
  .is (.agg #[.int .u64 a2, .int .u64 b2, .int .u64 c2, .int .u64 d2]),
  .is (.agg #[.int .u64 a, .int .u64 b, .int .u64 c, .int .u64 d]),
  .is (svL (andB ([a2, b2, c2, d2]) ([a, b, c, d]))),
  .is (.bool true),
  .is (.bool true),
  .is (.bool true),
  .is (.agg #[.int .u64 a, .int .u64 b, .int .u64 c, .int .u64 d]),
  .is (.agg #[.int .u64 a2, .int .u64 b2, .int .u64 c2, .int .u64 d2]),
  .is (svL (minusB ([a, b, c, d]) ([a2, b2, c2, d2]))),
  .is (.agg #[.int .u64 a, .int .u64 b, .int .u64 c, .int .u64 d]),
  .is (.agg #[.int .u64 a2, .int .u64 b2, .int .u64 c2, .int .u64 d2]),
  .is (svL (andB ([a, b, c, d]) ([a2, b2, c2, d2]))),
  .is (svL (orB (minusB ([a, b, c, d]) ([a2, b2, c2, d2])) (andB ([a, b, c, d]) ([a2, b2, c2, d2])))),
  .is (.agg #[.int .u64 a, .int .u64 b, .int .u64 c, .int .u64 d]),
  .is (.bool true),
  .is (.bool true),
  .is (.bool true),
  .is (.agg #[.int .u64 a, .int .u64 b, .int .u64 c, .int .u64 d]),
  .is (.agg #[.int .u64 a2, .int .u64 b2, .int .u64 c2, .int .u64 d2]),
  .is (svL (minusB ([a, b, c, d]) ([a2, b2, c2, d2]))),
  .is (.agg #[.int .u64 a2, .int .u64 b2, .int .u64 c2, .int .u64 d2]),
  .is (svL (andB (minusB ([a, b, c, d]) ([a2, b2, c2, d2])) ([a2, b2, c2, d2]))),
  .is (.agg #[.int .u64 0, .int .u64 0, .int .u64 0, .int .u64 0]),
  .is (.bool true),
  .is (.bool true),
  .is (.bool true),
  .is (.agg #[.int .u64 u0, .int .u64 u1, .int .u64 u2, .int .u64 u3]),
  .is (.int .i64 ((lst ([u0, u1, u2, u3])).length : Nat)),
  .is (.agg #[.int .u64 a, .int .u64 b, .int .u64 c, .int .u64 d]),
  .is (.agg #[.int .u64 a2, .int .u64 b2, .int .u64 c2, .int .u64 d2]),
  .is (svL (andB ([a, b, c, d]) ([a2, b2, c2, d2]))),
  .is (.int .i64 ((lst (andB ([a, b, c, d]) ([a2, b2, c2, d2]))).length : Nat)),
  .is (.int .i64 (((lst [a, b, c, d]).length : Nat) + ((lst [a2, b2, c2, d2]).length : Nat) : Int)),
  .is (.agg #[.int .u64 a, .int .u64 b, .int .u64 c, .int .u64 d]),
  .is (.int .i64 ((lst ([a, b, c, d])).length : Nat)),
  .is (.agg #[.int .u64 a2, .int .u64 b2, .int .u64 c2, .int .u64 d2]),
  .is (.int .i64 ((lst ([a2, b2, c2, d2])).length : Nat)),
  .is (.int .i64 (((lst [a, b, c, d]).length : Nat) + ((lst [a2, b2, c2, d2]).length : Nat) : Int)),
  .is (.bool true),
  .is (.bool true),
  .is (.bool true),
  .is (.agg #[.int .u64 u0, .int .u64 u1, .int .u64 u2, .int .u64 u3]),
  .is (.agg #[.int .u64 a2, .int .u64 b2, .int .u64 c2, .int .u64 d2]),
  .is (svL (minusB ([u0, u1, u2, u3]) ([a2, b2, c2, d2]))),
  .is (.agg #[.int .u64 a2, .int .u64 b2, .int .u64 c2, .int .u64 d2]),
  .is (svL (orB (minusB ([u0, u1, u2, u3]) ([a2, b2, c2, d2])) ([a2, b2, c2, d2]))),
  .is (.agg #[.int .u64 u0, .int .u64 u1, .int .u64 u2, .int .u64 u3]),
  .is (.bool true),
  .is (.bool true),
  .is (.bool true),
  .is (.agg #[.int .u64 a, .int .u64 b, .int .u64 c, .int .u64 d]),
  .is (.agg #[.int .u64 a, .int .u64 b, .int .u64 c, .int .u64 d]),
  .is (svL (orB ([a, b, c, d]) ([a, b, c, d]))),
  .is (.agg #[.int .u64 a, .int .u64 b, .int .u64 c, .int .u64 d]),
  .is (.bool true),
  .is (.bool true),
  .is (.bool true),
  .is (.agg #[.int .u64 a, .int .u64 b, .int .u64 c, .int .u64 d]),
  .is (.agg #[.int .u64 a, .int .u64 b, .int .u64 c, .int .u64 d]),
  .is (svL (minusB ([a, b, c, d]) ([a, b, c, d]))),
  .is (.int .i64 (-1)),
  .is (.bool true),
  .is (.bool true),
  .is (.bool true)]
set_option maxRecDepth 100000 in
set_option maxHeartbeats 8000000 in
theorem laws_walk {a b c d a2 b2 c2 d2 : Nat} (hwf : wfB [a, b, c, d]) (hwf2 : wfB [a2, b2, c2, d2]) (w : World) (hT : TabAt w) (h0 : 0 < w.heap.size) : Calls Tryd.prog 6 #[.agg #[.int .u64 a, .int .u64 b, .int .u64 c, .int .u64 d], .agg #[.int .u64 a2, .int .u64 b2, .int .u64 c2, .int .u64 d2]] w fun e w' => e = .returned (.bool true) ∧ Below w.heap.size w w' := by
  have HWF := Lib.hid (And.intro hwf hwf2)
  have HTT := Lib.hid (And.intro hT h0)
  clear hwf hwf2 hT h0
  go_enter Tryd.func6, Tryd.ntmps6
  have HTW := HTT.out.1.below HTT.out.2 (fb_alloc (fb_alloc (Below.refl _ w) (.cells #[.int .u64 a, .int .u64 b, .int .u64 c, .int .u64 d] 23)) (.cells #[.int .u64 a2, .int .u64 b2, .int .u64 c2, .int .u64 d2] 23))
  have HTWH := Lib.hid HTW
  clear HTW
  go_upto_region 3 with (go_at_call 21; refine (works_any _ HTWH.out (by rw [World.size_alloc, World.size_alloc]; omega)).mono ?_; rintro e wk ⟨rfl, hbk⟩)
  have hA0 : Arr wk w.heap.size 23 [.int .u64 a, .int .u64 b, .int .u64 c, .int .u64 d] := ((Arr.new w _ _).alloc _).below hbk (by rw [World.size_alloc, World.size_alloc]; omega)
  have hB0 : Arr wk (w.heap.size + 1) 23 [.int .u64 a2, .int .u64 b2, .int .u64 c2, .int .u64 d2] := by
    have := Arr.new (w.alloc (.cells #[.int .u64 a, .int .u64 b, .int .u64 c, .int .u64 d] 23)) 23 [.int .u64 a2, .int .u64 b2, .int .u64 c2, .int .u64 d2]
    simp only [World.size_alloc] at this
    exact this.below hbk (by rw [World.size_alloc, World.size_alloc]; omega)
  have hbl0 : Below w.heap.size w wk := fb_call (fb_alloc (fb_alloc (Below.refl _ w) _) _) hbk
  clear hbk
  have HZ := Lib.hid (And.intro hA0 (And.intro hB0 hbl0))
  clear hA0 hB0 hbl0
  go_cut [5, 6, 10, 11] (fun s5 s6 _ _ wx => ∃ S T : Nat, s5 = .pointer (some ⟨S, 0, none⟩) ∧ s6 = .pointer (some ⟨T, 0, none⟩) ∧ Arr wx S 24 [.int .u64 a, .int .u64 b, .int .u64 c, .int .u64 d] ∧ Arr wx T 24 [.int .u64 a2, .int .u64 b2, .int .u64 c2, .int .u64 d2] ∧ Below wk.heap.size wk wx)
  case first =>
    have c0 : wk.cell? ⟨w.heap.size, 0, none⟩ = _ := HZ.out.1.cell 0
    have c1 : wk.cell? ⟨w.heap.size, 1, none⟩ = _ := HZ.out.1.cell 1
    have c2_ : wk.cell? ⟨w.heap.size, 2, none⟩ = _ := HZ.out.1.cell 2
    have c3 : wk.cell? ⟨w.heap.size, 3, none⟩ = _ := HZ.out.1.cell 3
    have k0 : wk.cell? ⟨w.heap.size + 1, 0, none⟩ = _ := HZ.out.2.1.cell 0
    have k1 : wk.cell? ⟨w.heap.size + 1, 1, none⟩ = _ := HZ.out.2.1.cell 1
    have k2 : wk.cell? ⟨w.heap.size + 1, 2, none⟩ = _ := HZ.out.2.1.cell 2
    have k3 : wk.cell? ⟨w.heap.size + 1, 3, none⟩ = _ := HZ.out.2.1.cell 3
    have hlt : w.heap.size < wk.heap.size := HZ.out.1.lt
    have hlt2 : w.heap.size + 1 < wk.heap.size := HZ.out.2.1.lt
    simp only [List.getElem?_cons_zero, List.getElem?_cons_succ] at c0 c1 c2_ c3 k0 k1 k2 k3
    go_region
    all_goals (go_wp2_with fail; go_meet)
    all_goals exact ⟨_, _, rfl, rfl, (by first | exact arr2a _ _ _ _ | exact arr2b _ _ _ _), (by first | exact arr2a _ _ _ _ | exact arr2b _ _ _ _), fb_drew (fb_alloc (fb_alloc (Below.refl _ _) _) _)⟩
  case rest =>
    obtain ⟨S, T, rfl, rfl, hSA, hTA, hbk⟩ := hcut
    have hA := HZ.out.1.below hbk HZ.out.1.lt
    have hB := HZ.out.2.1.below hbk HZ.out.2.1.lt
    have hbl := fb_call HZ.out.2.2 hbk
    have hS0 : StB wc wc := ⟨Below.refl _ _, HTT.out.1.below HTT.out.2 hbl, Nat.lt_of_lt_of_le HTT.out.2 hbl.size⟩
    have HBL := Lib.hid hbl
    clear hbl hbk HZ
    go_upto_region 4 with fail
    obtain ⟨u0, u1, u2, u3, hU0, _⟩ := wf_form (wf_or HWF.out.1 HWF.out.2)
    have hU := Lib.hid hU0
    have hwfU := Lib.hid (show wfB [u0, u1, u2, u3] from hU0 ▸ wf_or HWF.out.1 HWF.out.2)
    have hLN := Lib.hid (show (lst [u0, u1, u2, u3]).length + (lst (andB [a, b, c, d] [a2, b2, c2, d2])).length = (lst [a, b, c, d]).length + (lst [a2, b2, c2, d2]).length from hU0 ▸ len_or_and HWF.out.1 HWF.out.2)
    have hOr := Lib.hid (show ∀ W : World, Calls Tryd.prog 24 #[.agg #[.int .u64 a, .int .u64 b, .int .u64 c, .int .u64 d], .agg #[.int .u64 a2, .int .u64 b2, .int .u64 c2, .int .u64 d2]] W fun e w' => e = .returned (.agg #[.int .u64 u0, .int .u64 u1, .int .u64 u2, .int .u64 u3]) ∧ Below W.heap.size W w' from fun W => by
      have := bor_any HWF.out.1 HWF.out.2 W; rw [hU0] at this; exact this)
    clear hU0
    refine wp_gen fun a0 w0 ha0 hw0 => ?_
    subst hw0
    have z : a0.tmps.size = 87 := by rw [ha0]; rfl
    have d0 : a0.defers = [] := by rw [ha0]
    have e5 : a0.tmps[5]? = some (.pointer (some ⟨S, 0, none⟩)) := by rw [ha0]; rfl
    have e6 : a0.tmps[6]? = some (.pointer (some ⟨T, 0, none⟩)) := by rw [ha0]; rfl
    have hltS := hSA.lt
    have hltT := hTA.lt
    obtain ⟨n0, hn0⟩ : ∃ n0, w0.heap.size = n0 := ⟨_, rfl⟩
    clear ha0
    refine wp_region_typed_tail 4 DLaws4 [] (fun k_ v_ w_ => ((TLLaws4 n0 a b c d a2 b2 c2 d2 u0 u1 u2 u3).getD k_ .any).ok v_ w_) (fun w w' => Below w.heap.size w w') (fun _ w => StB w0 w) (by kernel_rfl) (by kernel_rfl) (by kernel_rfl) (by rw [z]; kernel_rfl) (by kernel_rfl) (by kernel_rfl) (by kernel_rfl) (by decide) (fun _ _ _ _ h hr => TyB.mono _ _ _ _ h hr) (fun _ h => hS0.first h) (steps_of ?_) ?_
    · clear hS0
      refine steps_cons (not_ch (by kernel_rfl) fun _n act w K hS hd ham hdep hK => ?_) ?_
      · skip
        have h5 := (ham 5 (by kernel_rfl)).trans e5
        have HK := Lib.hid hK
        have HS := Lib.hid hS
        clear hK ham hdep hS hd
        refine go_plain rfl ?_
        obtain ⟨c0, c1, c2_, c3⟩ := cellsK hSA HS.out.1
        go_simp
        exact HK.out _ w (Below.refl _ _) HS.out rfl
      refine steps_cons (not_ch (by kernel_rfl) fun _n act w K hS hd ham hdep hK => ?_) ?_
      · skip
        have h6 := (ham 6 (by kernel_rfl)).trans e6
        have HK := Lib.hid hK
        have HS := Lib.hid hS
        clear hK ham hdep hS hd
        refine go_plain rfl ?_
        obtain ⟨c0, c1, c2_, c3⟩ := cellsK hTA HS.out.1
        go_simp
        exact HK.out _ w (Below.refl _ _) HS.out rfl
      refine steps_cons (not_ch (by kernel_rfl) fun _n act w K hS hd ham hdep hK => ?_) ?_
      · skip
        obtain ⟨x12, h12, t12⟩ := hdep ⟨0, .data⟩ (by simp) rfl 12 rfl
        rw [show x12 = .agg #[.int .u64 a, .int .u64 b, .int .u64 c, .int .u64 d] from t12] at h12
        clear t12
        obtain ⟨x13, h13, t13⟩ := hdep ⟨1, .data⟩ (by simp) rfl 13 rfl
        rw [show x13 = .agg #[.int .u64 a2, .int .u64 b2, .int .u64 c2, .int .u64 d2] from t13] at h13
        clear t13
        have HK := Lib.hid hK
        have HS := Lib.hid hS
        clear hK ham hdep hS hd
        refine go_plain rfl ?_
        go_simp
        refine (hOr.out w).mono ?_
        rintro e w' ⟨rfl, hb⟩
        exact HK.out _ w' hb (StB.bel HS.out hb) rfl
      refine steps_cons (not_ch (by kernel_rfl) fun _n act w K hS hd ham hdep hK => ?_) ?_
      · skip
        have HK := Lib.hid hK
        have HS := Lib.hid hS
        clear hK ham hdep hS hd
        refine go_plain rfl ?_
        go_simp
        exact HK.out _ _ (fb_alloc (Below.refl _ _) _) (StB.bel HS.out (fb_alloc (Below.refl _ _) _)) ⟨w.heap.size, rfl, by rw [← hn0]; exact HS.out.1.size, Arr.new w _ _⟩
      exact steps_done 4 (by omega)
    · intro vs a1 w1 hF hty hS
      obtain ⟨U, hp, hUn, hUA⟩ := hty 3 (by decide)
      have h7 := hF.mine 3 7 (by kernel_rfl) (by kernel_rfl)
      have h14 := hF.mine 2 14 (by kernel_rfl) (by kernel_rfl)
      rw [hp] at h7
      rw [show vs 2 = .agg #[.int .u64 u0, .int .u64 u1, .int .u64 u2, .int .u64 u3] from hty 2 (by decide)] at h14
      have k5 := (hF.amb [some 12, some 13, some 14, some 7] (by kernel_rfl) 5 (by kernel_rfl)).trans e5
      have k6 := (hF.amb [some 12, some 13, some 14, some 7] (by kernel_rfl) 6 (by kernel_rfl)).trans e6
      have z1 := hF.size.trans z
      have d1 := hF.defers.trans d0
      have hbl1 := fb_call HBL.out hS.1
      have hSA := hSA.below hS.1 hSA.lt
      have hTA := hTA.below hS.1 hTA.lt
      have hneS : S ≠ U := by
        omega
      have hneT : T ≠ U := by
        omega
      have hwU : w.heap.size ≤ U := Nat.le_trans HBL.out.size (by rw [hn0]; exact hUn)
      obtain ⟨s1, s2, s3, s4⟩ := set_stored (wa := w) hbl1 hUA hwU u0 u1 u2 u3
      have s5 := s4 _ _ _ hneS hSA
      have s6 := s4 _ _ _ hneT hTA
      have g0 : w1.cell? ⟨U, 0, none⟩ = some (.int .u64 0) := hUA.cell 0
      have g1 : w1.cell? ⟨U, 1, none⟩ = some (.int .u64 0) := hUA.cell 1
      have g2 : w1.cell? ⟨U, 2, none⟩ = some (.int .u64 0) := hUA.cell 2
      have g3 : w1.cell? ⟨U, 3, none⟩ = some (.int .u64 0) := hUA.cell 3
      have q0 := hUA.frozen 0
      have q1 := hUA.frozen 1
      have q2 := hUA.frozen 2
      have q3 := hUA.frozen 3
      have HX := Lib.hid (And.intro s1 (And.intro s5 (And.intro s6 (And.intro s2 z1))))
      obtain ⟨tm, df⟩ := a1
      obtain rfl : df = [] := d1
      clear hF hty hS hbl1 hSA hTA hA hB hUA hS0 hp e5 e6 z d0 HBL z1 s1 s2 s3 s4 s5 s6 hneS hneT hwU hUn hn0 hOr hltS hltT
      simp only [List.drop_succ_cons, List.drop_zero]
      go_upto_region 5 with fail
      refine wp_gen fun a0 w2 ha0 hw2 => ?_
      obtain ⟨hbl, hSA, hTA, hUA, z1⟩ := HX.out
      rw [← hw2] at hbl hSA hTA hUA
      have hS0 : StB w2 w2 := ⟨Below.refl _ _, HTT.out.1.below HTT.out.2 hbl, Nat.lt_of_lt_of_le HTT.out.2 hbl.size⟩
      have z : a0.tmps.size = 87 := by rw [ha0]; exact z1
      have d0 : a0.defers = [] := by rw [ha0]
      have e5 : a0.tmps[5]? = some (.pointer (some ⟨S, 0, none⟩)) := by rw [ha0]; exact k5
      have e6 : a0.tmps[6]? = some (.pointer (some ⟨T, 0, none⟩)) := by rw [ha0]; exact k6
      have e7 : a0.tmps[7]? = some (.pointer (some ⟨U, 0, none⟩)) := by rw [ha0]; exact h7
      have HBL := Lib.hid hbl
      clear ha0 hw2 hbl HX h7 h14 k5 k6 z1 HTT g0 g1 g2 g3 q0 q1 q2 q3
      refine wp_region_typed 73 DLaws5 [] (fun k_ v_ w_ => ((TLLaws5 a b c d a2 b2 c2 d2 u0 u1 u2 u3).getD k_ .any).ok v_ w_) (fun w w' => Below w.heap.size w w') (fun _ w => StB w2 w) (by kernel_rfl) (by kernel_rfl) (by kernel_rfl) (by kernel_rfl) (by rw [z]; kernel_rfl) (by kernel_rfl) (by kernel_rfl) (fun _ _ _ _ h hr => TyB.mono _ _ _ _ h hr) (fun _ h => hS0.first h) (steps_of ?_) ?_
      · clear hS0
        refine steps_cons (not_ch (by kernel_rfl) fun _n act w K hS hd ham hdep hK => ?_) ?_
        · skip
          have h7 := (ham 7 (by kernel_rfl)).trans e7
          have HK := Lib.hid hK
          have HS := Lib.hid hS
          clear hK ham hdep hS hd
          refine go_plain rfl ?_
          obtain ⟨c0, c1, c2_, c3⟩ := cellsK hUA HS.out.1
          go_simp
          exact HK.out _ w (Below.refl _ _) HS.out rfl
        refine steps_cons (not_ch (by kernel_rfl) fun _n act w K hS hd ham hdep hK => ?_) ?_
        · skip
          have h6 := (ham 6 (by kernel_rfl)).trans e6
          have HK := Lib.hid hK
          have HS := Lib.hid hS
          clear hK ham hdep hS hd
          refine go_plain rfl ?_
          obtain ⟨c0, c1, c2_, c3⟩ := cellsK hTA HS.out.1
          go_simp
          exact HK.out _ w (Below.refl _ _) HS.out rfl
        refine steps_cons (not_ch (by kernel_rfl) fun _n act w K hS hd ham hdep hK => ?_) ?_
        · skip
          have h5 := (ham 5 (by kernel_rfl)).trans e5
          have HK := Lib.hid hK
          have HS := Lib.hid hS
          clear hK ham hdep hS hd
          refine go_plain rfl ?_
          obtain ⟨c0, c1, c2_, c3⟩ := cellsK hSA HS.out.1
          go_simp
          exact HK.out _ w (Below.refl _ _) HS.out rfl
        refine steps_cons (not_ch (by kernel_rfl) fun _n act w K hS hd ham hdep hK => ?_) ?_
        · skip
          obtain ⟨x16, h16, t16⟩ := hdep ⟨1, .data⟩ (by simp) rfl 16 rfl
          rw [show x16 = .agg #[.int .u64 a2, .int .u64 b2, .int .u64 c2, .int .u64 d2] from t16] at h16
          clear t16
          obtain ⟨x17, h17, t17⟩ := hdep ⟨2, .data⟩ (by simp) rfl 17 rfl
          rw [show x17 = .agg #[.int .u64 a, .int .u64 b, .int .u64 c, .int .u64 d] from t17] at h17
          clear t17
          have HK := Lib.hid hK
          have HS := Lib.hid hS
          clear hK ham hdep hS hd
          refine go_plain rfl ?_
          go_simp
          refine (bor_any (S := [a2, b2, c2, d2]) (T := [a, b, c, d]) HWF.out.2 HWF.out.1 w).mono ?_
          rintro e w' ⟨rfl, hb⟩
          exact HK.out _ w' hb (StB.bel HS.out hb) rfl
        refine steps_cons (not_ch (by kernel_rfl) fun _n act w K hS hd ham hdep hK => ?_) ?_
        · skip
          obtain ⟨x15, h15, t15⟩ := hdep ⟨0, .data⟩ (by simp) rfl 15 rfl
          rw [show x15 = .agg #[.int .u64 u0, .int .u64 u1, .int .u64 u2, .int .u64 u3] from t15] at h15
          clear t15
          obtain ⟨x18, h18, t18⟩ := hdep ⟨3, .data⟩ (by simp) rfl 18 rfl
          rw [show x18 = svL (orB ([a2, b2, c2, d2]) ([a, b, c, d])) from t18] at h18
          clear t18
          have HK := Lib.hid hK
          have HS := Lib.hid hS
          clear hK ham hdep hS hd
          refine go_plain rfl ?_
          obtain ⟨p0, p1, p2, p3, hp, _⟩ := wf_form ((wf_or HWF.out.2 HWF.out.1))
          rw [show (.agg #[.int .u64 u0, .int .u64 u1, .int .u64 u2, .int .u64 u3] : Value) = .agg #[.int .u64 p0, .int .u64 p1, .int .u64 p2, .int .u64 p3] from (show svL ([u0, u1, u2, u3]) = .agg #[.int .u64 p0, .int .u64 p1, .int .u64 p2, .int .u64 p3] by rw [show [u0, u1, u2, u3] = orB ([a2, b2, c2, d2]) ([a, b, c, d]) from (hU.out.symm.trans (or_comm' HWF.out.1 HWF.out.2).symm), hp]; rfl)] at h15
          rw [show (svL (orB ([a2, b2, c2, d2]) ([a, b, c, d])) : Value) = .agg #[.int .u64 p0, .int .u64 p1, .int .u64 p2, .int .u64 p3] from (show svL (orB ([a2, b2, c2, d2]) ([a, b, c, d])) = .agg #[.int .u64 p0, .int .u64 p1, .int .u64 p2, .int .u64 p3] by rw [hp]; rfl)] at h18
          clear hp
          go_simp
          exact HK.out _ w (Below.refl _ _) HS.out rfl
        refine steps_cons (not_ch (by kernel_rfl) fun _n act w K hS hd ham hdep hK => ?_) ?_
        · skip
          obtain ⟨x19, h19, t19⟩ := hdep ⟨4, .data⟩ (by simp) rfl 19 rfl
          rw [show x19 = .bool true from t19] at h19
          clear t19
          have HK := Lib.hid hK
          have HS := Lib.hid hS
          clear hK ham hdep hS hd
          refine go_plain rfl ?_
          go_simp
          exact HK.out _ w (Below.refl _ _) HS.out rfl
        refine steps_cons (not_ch (by kernel_rfl) fun _n act w K hS hd ham hdep hK => ?_) ?_
        · skip
          have h5 := (ham 5 (by kernel_rfl)).trans e5
          obtain ⟨x20, h20, t20⟩ := hdep ⟨5, .guard⟩ (by simp) rfl 20 rfl
          rw [show x20 = .bool true from t20] at h20
          clear t20
          have HK := Lib.hid hK
          have HS := Lib.hid hS
          clear hK ham hdep hS hd
          refine go_guard 5 20 true rfl rfl h20 ?_
          obtain ⟨c0, c1, c2_, c3⟩ := cellsK hSA HS.out.1
          go_simp
          exact HK.out _ w (Below.refl _ _) HS.out rfl
        refine steps_cons (not_ch (by kernel_rfl) fun _n act w K hS hd ham hdep hK => ?_) ?_
        · skip
          have h6 := (ham 6 (by kernel_rfl)).trans e6
          obtain ⟨x20, h20, t20⟩ := hdep ⟨5, .guard⟩ (by simp) rfl 20 rfl
          rw [show x20 = .bool true from t20] at h20
          clear t20
          have HK := Lib.hid hK
          have HS := Lib.hid hS
          clear hK ham hdep hS hd
          refine go_guard 5 20 true rfl rfl h20 ?_
          obtain ⟨c0, c1, c2_, c3⟩ := cellsK hTA HS.out.1
          go_simp
          exact HK.out _ w (Below.refl _ _) HS.out rfl
        refine steps_cons (not_ch (by kernel_rfl) fun _n act w K hS hd ham hdep hK => ?_) ?_
        · skip
          obtain ⟨x20, h20, t20⟩ := hdep ⟨5, .chain⟩ (by simp) rfl 20 rfl
          rw [show x20 = .bool true from t20] at h20
          clear t20
          obtain ⟨x21, h21, t21⟩ := hdep ⟨6, .data⟩ (by simp) rfl 21 rfl
          rw [show x21 = .agg #[.int .u64 a, .int .u64 b, .int .u64 c, .int .u64 d] from t21] at h21
          clear t21
          obtain ⟨x22, h22, t22⟩ := hdep ⟨7, .data⟩ (by simp) rfl 22 rfl
          rw [show x22 = .agg #[.int .u64 a2, .int .u64 b2, .int .u64 c2, .int .u64 d2] from t22] at h22
          clear t22
          have HK := Lib.hid hK
          have HS := Lib.hid hS
          clear hK ham hdep hS hd
          refine go_guard 5 20 true rfl rfl h20 ?_
          go_simp
          refine (band_any (S := [a, b, c, d]) (T := [a2, b2, c2, d2]) HWF.out.1 HWF.out.2 w).mono ?_
          rintro e w' ⟨rfl, hb⟩
          exact HK.out _ w' hb (StB.bel HS.out hb) rfl
        refine steps_cons (not_ch (by kernel_rfl) fun _n act w K hS hd ham hdep hK => ?_) ?_
        · skip
          have h6 := (ham 6 (by kernel_rfl)).trans e6
          obtain ⟨x20, h20, t20⟩ := hdep ⟨5, .guard⟩ (by simp) rfl 20 rfl
          rw [show x20 = .bool true from t20] at h20
          clear t20
          have HK := Lib.hid hK
          have HS := Lib.hid hS
          clear hK ham hdep hS hd
          refine go_guard 5 20 true rfl rfl h20 ?_
          obtain ⟨c0, c1, c2_, c3⟩ := cellsK hTA HS.out.1
          go_simp
          exact HK.out _ w (Below.refl _ _) HS.out rfl
        refine steps_cons (not_ch (by kernel_rfl) fun _n act w K hS hd ham hdep hK => ?_) ?_
        · skip
          have h5 := (ham 5 (by kernel_rfl)).trans e5
          obtain ⟨x20, h20, t20⟩ := hdep ⟨5, .guard⟩ (by simp) rfl 20 rfl
          rw [show x20 = .bool true from t20] at h20
          clear t20
          have HK := Lib.hid hK
          have HS := Lib.hid hS
          clear hK ham hdep hS hd
          refine go_guard 5 20 true rfl rfl h20 ?_
          obtain ⟨c0, c1, c2_, c3⟩ := cellsK hSA HS.out.1
          go_simp
          exact HK.out _ w (Below.refl _ _) HS.out rfl
        refine steps_cons (not_ch (by kernel_rfl) fun _n act w K hS hd ham hdep hK => ?_) ?_
        · skip
          obtain ⟨x20, h20, t20⟩ := hdep ⟨5, .guard⟩ (by simp) rfl 20 rfl
          rw [show x20 = .bool true from t20] at h20
          clear t20
          obtain ⟨x24, h24, t24⟩ := hdep ⟨9, .data⟩ (by simp) rfl 24 rfl
          rw [show x24 = .agg #[.int .u64 a2, .int .u64 b2, .int .u64 c2, .int .u64 d2] from t24] at h24
          clear t24
          obtain ⟨x25, h25, t25⟩ := hdep ⟨10, .data⟩ (by simp) rfl 25 rfl
          rw [show x25 = .agg #[.int .u64 a, .int .u64 b, .int .u64 c, .int .u64 d] from t25] at h25
          clear t25
          have HK := Lib.hid hK
          have HS := Lib.hid hS
          clear hK ham hdep hS hd
          refine go_guard 5 20 true rfl rfl h20 ?_
          go_simp
          refine (band_any (S := [a2, b2, c2, d2]) (T := [a, b, c, d]) HWF.out.2 HWF.out.1 w).mono ?_
          rintro e w' ⟨rfl, hb⟩
          exact HK.out _ w' hb (StB.bel HS.out hb) rfl
        refine steps_cons (not_ch (by kernel_rfl) fun _n act w K hS hd ham hdep hK => ?_) ?_
        · skip
          obtain ⟨x20, h20, t20⟩ := hdep ⟨5, .guard⟩ (by simp) rfl 20 rfl
          rw [show x20 = .bool true from t20] at h20
          clear t20
          obtain ⟨x23, h23, t23⟩ := hdep ⟨8, .data⟩ (by simp) rfl 23 rfl
          rw [show x23 = svL (andB ([a, b, c, d]) ([a2, b2, c2, d2])) from t23] at h23
          clear t23
          obtain ⟨x26, h26, t26⟩ := hdep ⟨11, .data⟩ (by simp) rfl 26 rfl
          rw [show x26 = svL (andB ([a2, b2, c2, d2]) ([a, b, c, d])) from t26] at h26
          clear t26
          have HK := Lib.hid hK
          have HS := Lib.hid hS
          clear hK ham hdep hS hd
          refine go_guard 5 20 true rfl rfl h20 ?_
          obtain ⟨p0, p1, p2, p3, hp, _⟩ := wf_form ((wf_and HWF.out.2 HWF.out.1))
          rw [show (svL (andB ([a, b, c, d]) ([a2, b2, c2, d2])) : Value) = .agg #[.int .u64 p0, .int .u64 p1, .int .u64 p2, .int .u64 p3] from (show svL (andB ([a, b, c, d]) ([a2, b2, c2, d2])) = .agg #[.int .u64 p0, .int .u64 p1, .int .u64 p2, .int .u64 p3] by rw [show andB ([a, b, c, d]) ([a2, b2, c2, d2]) = andB ([a2, b2, c2, d2]) ([a, b, c, d]) from (and_comm' HWF.out.1 HWF.out.2).symm, hp]; rfl)] at h23
          rw [show (svL (andB ([a2, b2, c2, d2]) ([a, b, c, d])) : Value) = .agg #[.int .u64 p0, .int .u64 p1, .int .u64 p2, .int .u64 p3] from (show svL (andB ([a2, b2, c2, d2]) ([a, b, c, d])) = .agg #[.int .u64 p0, .int .u64 p1, .int .u64 p2, .int .u64 p3] by rw [hp]; rfl)] at h26
          clear hp
          go_simp
          exact HK.out _ w (Below.refl _ _) HS.out rfl
        refine steps_cons (not_ch (by kernel_rfl) fun _n act w K hS hd ham hdep hK => ?_) ?_
        · skip
          obtain ⟨x20, h20, t20⟩ := hdep ⟨5, .data⟩ (by simp) rfl 20 rfl
          rw [show x20 = .bool true from t20] at h20
          clear t20
          obtain ⟨x27, h27, t27⟩ := hdep ⟨12, .data⟩ (by simp) rfl 27 rfl
          rw [show x27 = .bool true from t27] at h27
          clear t27
          have HK := Lib.hid hK
          have HS := Lib.hid hS
          clear hK ham hdep hS hd
          refine go_plain rfl ?_
          go_simp
          exact HK.out _ w (Below.refl _ _) HS.out rfl
        refine steps_cons (not_ch (by kernel_rfl) fun _n act w K hS hd ham hdep hK => ?_) ?_
        · skip
          obtain ⟨x28, h28, t28⟩ := hdep ⟨13, .data⟩ (by simp) rfl 28 rfl
          rw [show x28 = .bool true from t28] at h28
          clear t28
          have HK := Lib.hid hK
          have HS := Lib.hid hS
          clear hK ham hdep hS hd
          refine go_plain rfl ?_
          go_simp
          exact HK.out _ w (Below.refl _ _) HS.out rfl
        refine steps_cons (not_ch (by kernel_rfl) fun _n act w K hS hd ham hdep hK => ?_) ?_
        · skip
          have h5 := (ham 5 (by kernel_rfl)).trans e5
          obtain ⟨x29, h29, t29⟩ := hdep ⟨14, .guard⟩ (by simp) rfl 29 rfl
          rw [show x29 = .bool true from t29] at h29
          clear t29
          have HK := Lib.hid hK
          have HS := Lib.hid hS
          clear hK ham hdep hS hd
          refine go_guard 14 29 true rfl rfl h29 ?_
          obtain ⟨c0, c1, c2_, c3⟩ := cellsK hSA HS.out.1
          go_simp
          exact HK.out _ w (Below.refl _ _) HS.out rfl
        refine steps_cons (not_ch (by kernel_rfl) fun _n act w K hS hd ham hdep hK => ?_) ?_
        · skip
          have h6 := (ham 6 (by kernel_rfl)).trans e6
          obtain ⟨x29, h29, t29⟩ := hdep ⟨14, .guard⟩ (by simp) rfl 29 rfl
          rw [show x29 = .bool true from t29] at h29
          clear t29
          have HK := Lib.hid hK
          have HS := Lib.hid hS
          clear hK ham hdep hS hd
          refine go_guard 14 29 true rfl rfl h29 ?_
          obtain ⟨c0, c1, c2_, c3⟩ := cellsK hTA HS.out.1
          go_simp
          exact HK.out _ w (Below.refl _ _) HS.out rfl
        refine steps_cons (not_ch (by kernel_rfl) fun _n act w K hS hd ham hdep hK => ?_) ?_
        · skip
          obtain ⟨x29, h29, t29⟩ := hdep ⟨14, .chain⟩ (by simp) rfl 29 rfl
          rw [show x29 = .bool true from t29] at h29
          clear t29
          obtain ⟨x30, h30, t30⟩ := hdep ⟨15, .data⟩ (by simp) rfl 30 rfl
          rw [show x30 = .agg #[.int .u64 a, .int .u64 b, .int .u64 c, .int .u64 d] from t30] at h30
          clear t30
          obtain ⟨x31, h31, t31⟩ := hdep ⟨16, .data⟩ (by simp) rfl 31 rfl
          rw [show x31 = .agg #[.int .u64 a2, .int .u64 b2, .int .u64 c2, .int .u64 d2] from t31] at h31
          clear t31
          have HK := Lib.hid hK
          have HS := Lib.hid hS
          clear hK ham hdep hS hd
          refine go_guard 14 29 true rfl rfl h29 ?_
          go_simp
          refine (bminus_any (S := [a, b, c, d]) (T := [a2, b2, c2, d2]) HWF.out.1 HWF.out.2 w).mono ?_
          rintro e w' ⟨rfl, hb⟩
          exact HK.out _ w' hb (StB.bel HS.out hb) rfl
        refine steps_cons (not_ch (by kernel_rfl) fun _n act w K hS hd ham hdep hK => ?_) ?_
        · skip
          have h5 := (ham 5 (by kernel_rfl)).trans e5
          obtain ⟨x29, h29, t29⟩ := hdep ⟨14, .guard⟩ (by simp) rfl 29 rfl
          rw [show x29 = .bool true from t29] at h29
          clear t29
          have HK := Lib.hid hK
          have HS := Lib.hid hS
          clear hK ham hdep hS hd
          refine go_guard 14 29 true rfl rfl h29 ?_
          obtain ⟨c0, c1, c2_, c3⟩ := cellsK hSA HS.out.1
          go_simp
          exact HK.out _ w (Below.refl _ _) HS.out rfl
        refine steps_cons (not_ch (by kernel_rfl) fun _n act w K hS hd ham hdep hK => ?_) ?_
        · skip
          have h6 := (ham 6 (by kernel_rfl)).trans e6
          obtain ⟨x29, h29, t29⟩ := hdep ⟨14, .guard⟩ (by simp) rfl 29 rfl
          rw [show x29 = .bool true from t29] at h29
          clear t29
          have HK := Lib.hid hK
          have HS := Lib.hid hS
          clear hK ham hdep hS hd
          refine go_guard 14 29 true rfl rfl h29 ?_
          obtain ⟨c0, c1, c2_, c3⟩ := cellsK hTA HS.out.1
          go_simp
          exact HK.out _ w (Below.refl _ _) HS.out rfl
        refine steps_cons (not_ch (by kernel_rfl) fun _n act w K hS hd ham hdep hK => ?_) ?_
        · skip
          obtain ⟨x29, h29, t29⟩ := hdep ⟨14, .guard⟩ (by simp) rfl 29 rfl
          rw [show x29 = .bool true from t29] at h29
          clear t29
          obtain ⟨x33, h33, t33⟩ := hdep ⟨18, .data⟩ (by simp) rfl 33 rfl
          rw [show x33 = .agg #[.int .u64 a, .int .u64 b, .int .u64 c, .int .u64 d] from t33] at h33
          clear t33
          obtain ⟨x34, h34, t34⟩ := hdep ⟨19, .data⟩ (by simp) rfl 34 rfl
          rw [show x34 = .agg #[.int .u64 a2, .int .u64 b2, .int .u64 c2, .int .u64 d2] from t34] at h34
          clear t34
          have HK := Lib.hid hK
          have HS := Lib.hid hS
          clear hK ham hdep hS hd
          refine go_guard 14 29 true rfl rfl h29 ?_
          go_simp
          refine (band_any (S := [a, b, c, d]) (T := [a2, b2, c2, d2]) HWF.out.1 HWF.out.2 w).mono ?_
          rintro e w' ⟨rfl, hb⟩
          exact HK.out _ w' hb (StB.bel HS.out hb) rfl
        refine steps_cons (not_ch (by kernel_rfl) fun _n act w K hS hd ham hdep hK => ?_) ?_
        · skip
          obtain ⟨x29, h29, t29⟩ := hdep ⟨14, .guard⟩ (by simp) rfl 29 rfl
          rw [show x29 = .bool true from t29] at h29
          clear t29
          obtain ⟨x32, h32, t32⟩ := hdep ⟨17, .data⟩ (by simp) rfl 32 rfl
          rw [show x32 = svL (minusB ([a, b, c, d]) ([a2, b2, c2, d2])) from t32] at h32
          clear t32
          obtain ⟨x35, h35, t35⟩ := hdep ⟨20, .data⟩ (by simp) rfl 35 rfl
          rw [show x35 = svL (andB ([a, b, c, d]) ([a2, b2, c2, d2])) from t35] at h35
          clear t35
          have HK := Lib.hid hK
          have HS := Lib.hid hS
          clear hK ham hdep hS hd
          refine go_guard 14 29 true rfl rfl h29 ?_
          go_simp
          refine (bor_any (S := minusB ([a, b, c, d]) ([a2, b2, c2, d2])) (T := andB ([a, b, c, d]) ([a2, b2, c2, d2])) (wf_minus HWF.out.1 HWF.out.2) (wf_and HWF.out.1 HWF.out.2) w).mono ?_
          rintro e w' ⟨rfl, hb⟩
          exact HK.out _ w' hb (StB.bel HS.out hb) rfl
        refine steps_cons (not_ch (by kernel_rfl) fun _n act w K hS hd ham hdep hK => ?_) ?_
        · skip
          have h5 := (ham 5 (by kernel_rfl)).trans e5
          obtain ⟨x29, h29, t29⟩ := hdep ⟨14, .guard⟩ (by simp) rfl 29 rfl
          rw [show x29 = .bool true from t29] at h29
          clear t29
          have HK := Lib.hid hK
          have HS := Lib.hid hS
          clear hK ham hdep hS hd
          refine go_guard 14 29 true rfl rfl h29 ?_
          obtain ⟨c0, c1, c2_, c3⟩ := cellsK hSA HS.out.1
          go_simp
          exact HK.out _ w (Below.refl _ _) HS.out rfl
        refine steps_cons (not_ch (by kernel_rfl) fun _n act w K hS hd ham hdep hK => ?_) ?_
        · skip
          obtain ⟨x29, h29, t29⟩ := hdep ⟨14, .guard⟩ (by simp) rfl 29 rfl
          rw [show x29 = .bool true from t29] at h29
          clear t29
          obtain ⟨x36, h36, t36⟩ := hdep ⟨21, .data⟩ (by simp) rfl 36 rfl
          rw [show x36 = svL (orB (minusB ([a, b, c, d]) ([a2, b2, c2, d2])) (andB ([a, b, c, d]) ([a2, b2, c2, d2]))) from t36] at h36
          clear t36
          obtain ⟨x37, h37, t37⟩ := hdep ⟨22, .data⟩ (by simp) rfl 37 rfl
          rw [show x37 = .agg #[.int .u64 a, .int .u64 b, .int .u64 c, .int .u64 d] from t37] at h37
          clear t37
          have HK := Lib.hid hK
          have HS := Lib.hid hS
          clear hK ham hdep hS hd
          refine go_guard 14 29 true rfl rfl h29 ?_
          obtain ⟨p0, p1, p2, p3, hp, _⟩ := wf_form (HWF.out.1)
          rw [show (svL (orB (minusB ([a, b, c, d]) ([a2, b2, c2, d2])) (andB ([a, b, c, d]) ([a2, b2, c2, d2]))) : Value) = .agg #[.int .u64 p0, .int .u64 p1, .int .u64 p2, .int .u64 p3] from (show svL (orB (minusB ([a, b, c, d]) ([a2, b2, c2, d2])) (andB ([a, b, c, d]) ([a2, b2, c2, d2]))) = .agg #[.int .u64 p0, .int .u64 p1, .int .u64 p2, .int .u64 p3] by rw [show orB (minusB ([a, b, c, d]) ([a2, b2, c2, d2])) (andB ([a, b, c, d]) ([a2, b2, c2, d2])) = [a, b, c, d] from parts_or HWF.out.1 HWF.out.2, hp]; rfl)] at h36
          rw [show (.agg #[.int .u64 a, .int .u64 b, .int .u64 c, .int .u64 d] : Value) = .agg #[.int .u64 p0, .int .u64 p1, .int .u64 p2, .int .u64 p3] from (show svL ([a, b, c, d]) = .agg #[.int .u64 p0, .int .u64 p1, .int .u64 p2, .int .u64 p3] by rw [hp]; rfl)] at h37
          clear hp
          go_simp
          exact HK.out _ w (Below.refl _ _) HS.out rfl
        refine steps_cons (not_ch (by kernel_rfl) fun _n act w K hS hd ham hdep hK => ?_) ?_
        · skip
          obtain ⟨x29, h29, t29⟩ := hdep ⟨14, .data⟩ (by simp) rfl 29 rfl
          rw [show x29 = .bool true from t29] at h29
          clear t29
          obtain ⟨x38, h38, t38⟩ := hdep ⟨23, .data⟩ (by simp) rfl 38 rfl
          rw [show x38 = .bool true from t38] at h38
          clear t38
          have HK := Lib.hid hK
          have HS := Lib.hid hS
          clear hK ham hdep hS hd
          refine go_plain rfl ?_
          go_simp
          exact HK.out _ w (Below.refl _ _) HS.out rfl
        refine steps_cons (not_ch (by kernel_rfl) fun _n act w K hS hd ham hdep hK => ?_) ?_
        · skip
          obtain ⟨x39, h39, t39⟩ := hdep ⟨24, .data⟩ (by simp) rfl 39 rfl
          rw [show x39 = .bool true from t39] at h39
          clear t39
          have HK := Lib.hid hK
          have HS := Lib.hid hS
          clear hK ham hdep hS hd
          refine go_plain rfl ?_
          go_simp
          exact HK.out _ w (Below.refl _ _) HS.out rfl
        refine steps_cons (not_ch (by kernel_rfl) fun _n act w K hS hd ham hdep hK => ?_) ?_
        · skip
          have h5 := (ham 5 (by kernel_rfl)).trans e5
          obtain ⟨x40, h40, t40⟩ := hdep ⟨25, .guard⟩ (by simp) rfl 40 rfl
          rw [show x40 = .bool true from t40] at h40
          clear t40
          have HK := Lib.hid hK
          have HS := Lib.hid hS
          clear hK ham hdep hS hd
          refine go_guard 25 40 true rfl rfl h40 ?_
          obtain ⟨c0, c1, c2_, c3⟩ := cellsK hSA HS.out.1
          go_simp
          exact HK.out _ w (Below.refl _ _) HS.out rfl
        refine steps_cons (not_ch (by kernel_rfl) fun _n act w K hS hd ham hdep hK => ?_) ?_
        · skip
          have h6 := (ham 6 (by kernel_rfl)).trans e6
          obtain ⟨x40, h40, t40⟩ := hdep ⟨25, .guard⟩ (by simp) rfl 40 rfl
          rw [show x40 = .bool true from t40] at h40
          clear t40
          have HK := Lib.hid hK
          have HS := Lib.hid hS
          clear hK ham hdep hS hd
          refine go_guard 25 40 true rfl rfl h40 ?_
          obtain ⟨c0, c1, c2_, c3⟩ := cellsK hTA HS.out.1
          go_simp
          exact HK.out _ w (Below.refl _ _) HS.out rfl
        refine steps_cons (not_ch (by kernel_rfl) fun _n act w K hS hd ham hdep hK => ?_) ?_
        · skip
          obtain ⟨x40, h40, t40⟩ := hdep ⟨25, .chain⟩ (by simp) rfl 40 rfl
          rw [show x40 = .bool true from t40] at h40
          clear t40
          obtain ⟨x41, h41, t41⟩ := hdep ⟨26, .data⟩ (by simp) rfl 41 rfl
          rw [show x41 = .agg #[.int .u64 a, .int .u64 b, .int .u64 c, .int .u64 d] from t41] at h41
          clear t41
          obtain ⟨x42, h42, t42⟩ := hdep ⟨27, .data⟩ (by simp) rfl 42 rfl
          rw [show x42 = .agg #[.int .u64 a2, .int .u64 b2, .int .u64 c2, .int .u64 d2] from t42] at h42
          clear t42
          have HK := Lib.hid hK
          have HS := Lib.hid hS
          clear hK ham hdep hS hd
          refine go_guard 25 40 true rfl rfl h40 ?_
          go_simp
          refine (bminus_any (S := [a, b, c, d]) (T := [a2, b2, c2, d2]) HWF.out.1 HWF.out.2 w).mono ?_
          rintro e w' ⟨rfl, hb⟩
          exact HK.out _ w' hb (StB.bel HS.out hb) rfl
        refine steps_cons (not_ch (by kernel_rfl) fun _n act w K hS hd ham hdep hK => ?_) ?_
        · skip
          have h6 := (ham 6 (by kernel_rfl)).trans e6
          obtain ⟨x40, h40, t40⟩ := hdep ⟨25, .guard⟩ (by simp) rfl 40 rfl
          rw [show x40 = .bool true from t40] at h40
          clear t40
          have HK := Lib.hid hK
          have HS := Lib.hid hS
          clear hK ham hdep hS hd
          refine go_guard 25 40 true rfl rfl h40 ?_
          obtain ⟨c0, c1, c2_, c3⟩ := cellsK hTA HS.out.1
          go_simp
          exact HK.out _ w (Below.refl _ _) HS.out rfl
        refine steps_cons (not_ch (by kernel_rfl) fun _n act w K hS hd ham hdep hK => ?_) ?_
        · skip
          obtain ⟨x40, h40, t40⟩ := hdep ⟨25, .guard⟩ (by simp) rfl 40 rfl
          rw [show x40 = .bool true from t40] at h40
          clear t40
          obtain ⟨x43, h43, t43⟩ := hdep ⟨28, .data⟩ (by simp) rfl 43 rfl
          rw [show x43 = svL (minusB ([a, b, c, d]) ([a2, b2, c2, d2])) from t43] at h43
          clear t43
          obtain ⟨x44, h44, t44⟩ := hdep ⟨29, .data⟩ (by simp) rfl 44 rfl
          rw [show x44 = .agg #[.int .u64 a2, .int .u64 b2, .int .u64 c2, .int .u64 d2] from t44] at h44
          clear t44
          have HK := Lib.hid hK
          have HS := Lib.hid hS
          clear hK ham hdep hS hd
          refine go_guard 25 40 true rfl rfl h40 ?_
          go_simp
          refine (band_any (S := minusB ([a, b, c, d]) ([a2, b2, c2, d2])) (T := [a2, b2, c2, d2]) (wf_minus HWF.out.1 HWF.out.2) HWF.out.2 w).mono ?_
          rintro e w' ⟨rfl, hb⟩
          exact HK.out _ w' hb (StB.bel HS.out hb) rfl
        refine steps_cons (not_ch (by kernel_rfl) fun _n act w K hS hd ham hdep hK => ?_) ?_
        · skip
          obtain ⟨x40, h40, t40⟩ := hdep ⟨25, .guard⟩ (by simp) rfl 40 rfl
          rw [show x40 = .bool true from t40] at h40
          clear t40
          have HK := Lib.hid hK
          have HS := Lib.hid hS
          clear hK ham hdep hS hd
          refine go_guard 25 40 true rfl rfl h40 ?_
          go_simp
          exact HK.out _ w (Below.refl _ _) HS.out rfl
        refine steps_cons (not_ch (by kernel_rfl) fun _n act w K hS hd ham hdep hK => ?_) ?_
        · skip
          obtain ⟨x40, h40, t40⟩ := hdep ⟨25, .guard⟩ (by simp) rfl 40 rfl
          rw [show x40 = .bool true from t40] at h40
          clear t40
          obtain ⟨x45, h45, t45⟩ := hdep ⟨30, .data⟩ (by simp) rfl 45 rfl
          rw [show x45 = svL (andB (minusB ([a, b, c, d]) ([a2, b2, c2, d2])) ([a2, b2, c2, d2])) from t45] at h45
          clear t45
          obtain ⟨x46, h46, t46⟩ := hdep ⟨31, .data⟩ (by simp) rfl 46 rfl
          rw [show x46 = .agg #[.int .u64 0, .int .u64 0, .int .u64 0, .int .u64 0] from t46] at h46
          clear t46
          have HK := Lib.hid hK
          have HS := Lib.hid hS
          clear hK ham hdep hS hd
          refine go_guard 25 40 true rfl rfl h40 ?_
          obtain ⟨p0, p1, p2, p3, hp, _⟩ := wf_form (wf_zero)
          rw [show (svL (andB (minusB ([a, b, c, d]) ([a2, b2, c2, d2])) ([a2, b2, c2, d2])) : Value) = .agg #[.int .u64 p0, .int .u64 p1, .int .u64 p2, .int .u64 p3] from (show svL (andB (minusB ([a, b, c, d]) ([a2, b2, c2, d2])) ([a2, b2, c2, d2])) = .agg #[.int .u64 p0, .int .u64 p1, .int .u64 p2, .int .u64 p3] by rw [show andB (minusB ([a, b, c, d]) ([a2, b2, c2, d2])) ([a2, b2, c2, d2]) = [0, 0, 0, 0] from minus_and HWF.out.1 HWF.out.2, hp]; rfl)] at h45
          rw [show (.agg #[.int .u64 0, .int .u64 0, .int .u64 0, .int .u64 0] : Value) = .agg #[.int .u64 p0, .int .u64 p1, .int .u64 p2, .int .u64 p3] from (show svL ([0, 0, 0, 0]) = .agg #[.int .u64 p0, .int .u64 p1, .int .u64 p2, .int .u64 p3] by rw [hp]; rfl)] at h46
          clear hp
          go_simp
          exact HK.out _ w (Below.refl _ _) HS.out rfl
        refine steps_cons (not_ch (by kernel_rfl) fun _n act w K hS hd ham hdep hK => ?_) ?_
        · skip
          obtain ⟨x40, h40, t40⟩ := hdep ⟨25, .data⟩ (by simp) rfl 40 rfl
          rw [show x40 = .bool true from t40] at h40
          clear t40
          obtain ⟨x47, h47, t47⟩ := hdep ⟨32, .data⟩ (by simp) rfl 47 rfl
          rw [show x47 = .bool true from t47] at h47
          clear t47
          have HK := Lib.hid hK
          have HS := Lib.hid hS
          clear hK ham hdep hS hd
          refine go_plain rfl ?_
          go_simp
          exact HK.out _ w (Below.refl _ _) HS.out rfl
        refine steps_cons (not_ch (by kernel_rfl) fun _n act w K hS hd ham hdep hK => ?_) ?_
        · skip
          obtain ⟨x48, h48, t48⟩ := hdep ⟨33, .data⟩ (by simp) rfl 48 rfl
          rw [show x48 = .bool true from t48] at h48
          clear t48
          have HK := Lib.hid hK
          have HS := Lib.hid hS
          clear hK ham hdep hS hd
          refine go_plain rfl ?_
          go_simp
          exact HK.out _ w (Below.refl _ _) HS.out rfl
        refine steps_cons (not_ch (by kernel_rfl) fun _n act w K hS hd ham hdep hK => ?_) ?_
        · skip
          have h7 := (ham 7 (by kernel_rfl)).trans e7
          obtain ⟨x49, h49, t49⟩ := hdep ⟨34, .guard⟩ (by simp) rfl 49 rfl
          rw [show x49 = .bool true from t49] at h49
          clear t49
          have HK := Lib.hid hK
          have HS := Lib.hid hS
          clear hK ham hdep hS hd
          refine go_guard 34 49 true rfl rfl h49 ?_
          obtain ⟨c0, c1, c2_, c3⟩ := cellsK hUA HS.out.1
          go_simp
          exact HK.out _ w (Below.refl _ _) HS.out rfl
        refine steps_cons (not_ch (by kernel_rfl) fun _n act w K hS hd ham hdep hK => ?_) ?_
        · skip
          obtain ⟨x49, h49, t49⟩ := hdep ⟨34, .chain⟩ (by simp) rfl 49 rfl
          rw [show x49 = .bool true from t49] at h49
          clear t49
          obtain ⟨x50, h50, t50⟩ := hdep ⟨35, .data⟩ (by simp) rfl 50 rfl
          rw [show x50 = .agg #[.int .u64 u0, .int .u64 u1, .int .u64 u2, .int .u64 u3] from t50] at h50
          clear t50
          have HK := Lib.hid hK
          have HS := Lib.hid hS
          clear hK ham hdep hS hd
          refine go_guard 34 49 true rfl rfl h49 ?_
          go_simp
          refine (blen_any (S := [u0, u1, u2, u3]) hwfU.out w).mono ?_
          rintro e w' ⟨rfl, hb⟩
          exact HK.out _ w' hb (StB.bel HS.out hb) rfl
        refine steps_cons (not_ch (by kernel_rfl) fun _n act w K hS hd ham hdep hK => ?_) ?_
        · skip
          have h5 := (ham 5 (by kernel_rfl)).trans e5
          obtain ⟨x49, h49, t49⟩ := hdep ⟨34, .guard⟩ (by simp) rfl 49 rfl
          rw [show x49 = .bool true from t49] at h49
          clear t49
          have HK := Lib.hid hK
          have HS := Lib.hid hS
          clear hK ham hdep hS hd
          refine go_guard 34 49 true rfl rfl h49 ?_
          obtain ⟨c0, c1, c2_, c3⟩ := cellsK hSA HS.out.1
          go_simp
          exact HK.out _ w (Below.refl _ _) HS.out rfl
        refine steps_cons (not_ch (by kernel_rfl) fun _n act w K hS hd ham hdep hK => ?_) ?_
        · skip
          have h6 := (ham 6 (by kernel_rfl)).trans e6
          obtain ⟨x49, h49, t49⟩ := hdep ⟨34, .guard⟩ (by simp) rfl 49 rfl
          rw [show x49 = .bool true from t49] at h49
          clear t49
          have HK := Lib.hid hK
          have HS := Lib.hid hS
          clear hK ham hdep hS hd
          refine go_guard 34 49 true rfl rfl h49 ?_
          obtain ⟨c0, c1, c2_, c3⟩ := cellsK hTA HS.out.1
          go_simp
          exact HK.out _ w (Below.refl _ _) HS.out rfl
        refine steps_cons (not_ch (by kernel_rfl) fun _n act w K hS hd ham hdep hK => ?_) ?_
        · skip
          obtain ⟨x49, h49, t49⟩ := hdep ⟨34, .guard⟩ (by simp) rfl 49 rfl
          rw [show x49 = .bool true from t49] at h49
          clear t49
          obtain ⟨x52, h52, t52⟩ := hdep ⟨37, .data⟩ (by simp) rfl 52 rfl
          rw [show x52 = .agg #[.int .u64 a, .int .u64 b, .int .u64 c, .int .u64 d] from t52] at h52
          clear t52
          obtain ⟨x53, h53, t53⟩ := hdep ⟨38, .data⟩ (by simp) rfl 53 rfl
          rw [show x53 = .agg #[.int .u64 a2, .int .u64 b2, .int .u64 c2, .int .u64 d2] from t53] at h53
          clear t53
          have HK := Lib.hid hK
          have HS := Lib.hid hS
          clear hK ham hdep hS hd
          refine go_guard 34 49 true rfl rfl h49 ?_
          go_simp
          refine (band_any (S := [a, b, c, d]) (T := [a2, b2, c2, d2]) HWF.out.1 HWF.out.2 w).mono ?_
          rintro e w' ⟨rfl, hb⟩
          exact HK.out _ w' hb (StB.bel HS.out hb) rfl
        refine steps_cons (not_ch (by kernel_rfl) fun _n act w K hS hd ham hdep hK => ?_) ?_
        · skip
          obtain ⟨x49, h49, t49⟩ := hdep ⟨34, .guard⟩ (by simp) rfl 49 rfl
          rw [show x49 = .bool true from t49] at h49
          clear t49
          obtain ⟨x54, h54, t54⟩ := hdep ⟨39, .data⟩ (by simp) rfl 54 rfl
          rw [show x54 = svL (andB ([a, b, c, d]) ([a2, b2, c2, d2])) from t54] at h54
          clear t54
          have HK := Lib.hid hK
          have HS := Lib.hid hS
          clear hK ham hdep hS hd
          refine go_guard 34 49 true rfl rfl h49 ?_
          go_simp
          refine (blen_any (S := andB ([a, b, c, d]) ([a2, b2, c2, d2])) (wf_and HWF.out.1 HWF.out.2) w).mono ?_
          rintro e w' ⟨rfl, hb⟩
          exact HK.out _ w' hb (StB.bel HS.out hb) rfl
        refine steps_cons (not_ch (by kernel_rfl) fun _n act w K hS hd ham hdep hK => ?_) ?_
        · skip
          obtain ⟨x49, h49, t49⟩ := hdep ⟨34, .guard⟩ (by simp) rfl 49 rfl
          rw [show x49 = .bool true from t49] at h49
          clear t49
          obtain ⟨x51, h51, t51⟩ := hdep ⟨36, .data⟩ (by simp) rfl 51 rfl
          rw [show x51 = .int .i64 ((lst ([u0, u1, u2, u3])).length : Nat) from t51] at h51
          clear t51
          obtain ⟨x55, h55, t55⟩ := hdep ⟨40, .data⟩ (by simp) rfl 55 rfl
          rw [show x55 = .int .i64 ((lst (andB ([a, b, c, d]) ([a2, b2, c2, d2]))).length : Nat) from t55] at h55
          clear t55
          have HK := Lib.hid hK
          have HS := Lib.hid hS
          clear hK ham hdep hS hd
          refine go_guard 34 49 true rfl rfl h49 ?_
          have lq1 := lst_le [u0, u1, u2, u3]
          have lq2 := lst_le (andB [a, b, c, d] [a2, b2, c2, d2])
          have HB := Lib.hid hLN.out
          go_simp
          exact HK.out _ w (Below.refl _ _) HS.out (congrArg (Value.int .i64) (by have := HB.out; rw [wrap64i _ (by omega) (by omega)]; omega))
        refine steps_cons (not_ch (by kernel_rfl) fun _n act w K hS hd ham hdep hK => ?_) ?_
        · skip
          have h5 := (ham 5 (by kernel_rfl)).trans e5
          obtain ⟨x49, h49, t49⟩ := hdep ⟨34, .guard⟩ (by simp) rfl 49 rfl
          rw [show x49 = .bool true from t49] at h49
          clear t49
          have HK := Lib.hid hK
          have HS := Lib.hid hS
          clear hK ham hdep hS hd
          refine go_guard 34 49 true rfl rfl h49 ?_
          obtain ⟨c0, c1, c2_, c3⟩ := cellsK hSA HS.out.1
          go_simp
          exact HK.out _ w (Below.refl _ _) HS.out rfl
        refine steps_cons (not_ch (by kernel_rfl) fun _n act w K hS hd ham hdep hK => ?_) ?_
        · skip
          obtain ⟨x49, h49, t49⟩ := hdep ⟨34, .guard⟩ (by simp) rfl 49 rfl
          rw [show x49 = .bool true from t49] at h49
          clear t49
          obtain ⟨x57, h57, t57⟩ := hdep ⟨42, .data⟩ (by simp) rfl 57 rfl
          rw [show x57 = .agg #[.int .u64 a, .int .u64 b, .int .u64 c, .int .u64 d] from t57] at h57
          clear t57
          have HK := Lib.hid hK
          have HS := Lib.hid hS
          clear hK ham hdep hS hd
          refine go_guard 34 49 true rfl rfl h49 ?_
          go_simp
          refine (blen_any (S := [a, b, c, d]) HWF.out.1 w).mono ?_
          rintro e w' ⟨rfl, hb⟩
          exact HK.out _ w' hb (StB.bel HS.out hb) rfl
        refine steps_cons (not_ch (by kernel_rfl) fun _n act w K hS hd ham hdep hK => ?_) ?_
        · skip
          have h6 := (ham 6 (by kernel_rfl)).trans e6
          obtain ⟨x49, h49, t49⟩ := hdep ⟨34, .guard⟩ (by simp) rfl 49 rfl
          rw [show x49 = .bool true from t49] at h49
          clear t49
          have HK := Lib.hid hK
          have HS := Lib.hid hS
          clear hK ham hdep hS hd
          refine go_guard 34 49 true rfl rfl h49 ?_
          obtain ⟨c0, c1, c2_, c3⟩ := cellsK hTA HS.out.1
          go_simp
          exact HK.out _ w (Below.refl _ _) HS.out rfl
        refine steps_cons (not_ch (by kernel_rfl) fun _n act w K hS hd ham hdep hK => ?_) ?_
        · skip
          obtain ⟨x49, h49, t49⟩ := hdep ⟨34, .guard⟩ (by simp) rfl 49 rfl
          rw [show x49 = .bool true from t49] at h49
          clear t49
          obtain ⟨x59, h59, t59⟩ := hdep ⟨44, .data⟩ (by simp) rfl 59 rfl
          rw [show x59 = .agg #[.int .u64 a2, .int .u64 b2, .int .u64 c2, .int .u64 d2] from t59] at h59
          clear t59
          have HK := Lib.hid hK
          have HS := Lib.hid hS
          clear hK ham hdep hS hd
          refine go_guard 34 49 true rfl rfl h49 ?_
          go_simp
          refine (blen_any (S := [a2, b2, c2, d2]) HWF.out.2 w).mono ?_
          rintro e w' ⟨rfl, hb⟩
          exact HK.out _ w' hb (StB.bel HS.out hb) rfl
        refine steps_cons (not_ch (by kernel_rfl) fun _n act w K hS hd ham hdep hK => ?_) ?_
        · skip
          obtain ⟨x49, h49, t49⟩ := hdep ⟨34, .guard⟩ (by simp) rfl 49 rfl
          rw [show x49 = .bool true from t49] at h49
          clear t49
          obtain ⟨x58, h58, t58⟩ := hdep ⟨43, .data⟩ (by simp) rfl 58 rfl
          rw [show x58 = .int .i64 ((lst ([a, b, c, d])).length : Nat) from t58] at h58
          clear t58
          obtain ⟨x60, h60, t60⟩ := hdep ⟨45, .data⟩ (by simp) rfl 60 rfl
          rw [show x60 = .int .i64 ((lst ([a2, b2, c2, d2])).length : Nat) from t60] at h60
          clear t60
          have HK := Lib.hid hK
          have HS := Lib.hid hS
          clear hK ham hdep hS hd
          refine go_guard 34 49 true rfl rfl h49 ?_
          have lq1 := lst_le [a, b, c, d]
          have lq2 := lst_le [a2, b2, c2, d2]
          go_simp
          exact HK.out _ w (Below.refl _ _) HS.out (congrArg (Value.int .i64) (by rw [wrap64i _ (by omega) (by omega)]))
        refine steps_cons (not_ch (by kernel_rfl) fun _n act w K hS hd ham hdep hK => ?_) ?_
        · skip
          obtain ⟨x49, h49, t49⟩ := hdep ⟨34, .guard⟩ (by simp) rfl 49 rfl
          rw [show x49 = .bool true from t49] at h49
          clear t49
          obtain ⟨x56, h56, t56⟩ := hdep ⟨41, .data⟩ (by simp) rfl 56 rfl
          rw [show x56 = .int .i64 (((lst [a, b, c, d]).length : Nat) + ((lst [a2, b2, c2, d2]).length : Nat) : Int) from t56] at h56
          clear t56
          obtain ⟨x61, h61, t61⟩ := hdep ⟨46, .data⟩ (by simp) rfl 61 rfl
          rw [show x61 = .int .i64 (((lst [a, b, c, d]).length : Nat) + ((lst [a2, b2, c2, d2]).length : Nat) : Int) from t61] at h61
          clear t61
          have HK := Lib.hid hK
          have HS := Lib.hid hS
          clear hK ham hdep hS hd
          refine go_guard 34 49 true rfl rfl h49 ?_
          go_simp
          exact HK.out _ w (Below.refl _ _) HS.out rfl
        refine steps_cons (not_ch (by kernel_rfl) fun _n act w K hS hd ham hdep hK => ?_) ?_
        · skip
          obtain ⟨x49, h49, t49⟩ := hdep ⟨34, .data⟩ (by simp) rfl 49 rfl
          rw [show x49 = .bool true from t49] at h49
          clear t49
          obtain ⟨x62, h62, t62⟩ := hdep ⟨47, .data⟩ (by simp) rfl 62 rfl
          rw [show x62 = .bool true from t62] at h62
          clear t62
          have HK := Lib.hid hK
          have HS := Lib.hid hS
          clear hK ham hdep hS hd
          refine go_plain rfl ?_
          go_simp
          exact HK.out _ w (Below.refl _ _) HS.out rfl
        refine steps_cons (not_ch (by kernel_rfl) fun _n act w K hS hd ham hdep hK => ?_) ?_
        · skip
          obtain ⟨x63, h63, t63⟩ := hdep ⟨48, .data⟩ (by simp) rfl 63 rfl
          rw [show x63 = .bool true from t63] at h63
          clear t63
          have HK := Lib.hid hK
          have HS := Lib.hid hS
          clear hK ham hdep hS hd
          refine go_plain rfl ?_
          go_simp
          exact HK.out _ w (Below.refl _ _) HS.out rfl
        refine steps_cons (not_ch (by kernel_rfl) fun _n act w K hS hd ham hdep hK => ?_) ?_
        · skip
          have h7 := (ham 7 (by kernel_rfl)).trans e7
          obtain ⟨x64, h64, t64⟩ := hdep ⟨49, .guard⟩ (by simp) rfl 64 rfl
          rw [show x64 = .bool true from t64] at h64
          clear t64
          have HK := Lib.hid hK
          have HS := Lib.hid hS
          clear hK ham hdep hS hd
          refine go_guard 49 64 true rfl rfl h64 ?_
          obtain ⟨c0, c1, c2_, c3⟩ := cellsK hUA HS.out.1
          go_simp
          exact HK.out _ w (Below.refl _ _) HS.out rfl
        refine steps_cons (not_ch (by kernel_rfl) fun _n act w K hS hd ham hdep hK => ?_) ?_
        · skip
          have h6 := (ham 6 (by kernel_rfl)).trans e6
          obtain ⟨x64, h64, t64⟩ := hdep ⟨49, .guard⟩ (by simp) rfl 64 rfl
          rw [show x64 = .bool true from t64] at h64
          clear t64
          have HK := Lib.hid hK
          have HS := Lib.hid hS
          clear hK ham hdep hS hd
          refine go_guard 49 64 true rfl rfl h64 ?_
          obtain ⟨c0, c1, c2_, c3⟩ := cellsK hTA HS.out.1
          go_simp
          exact HK.out _ w (Below.refl _ _) HS.out rfl
        refine steps_cons (not_ch (by kernel_rfl) fun _n act w K hS hd ham hdep hK => ?_) ?_
        · skip
          obtain ⟨x64, h64, t64⟩ := hdep ⟨49, .chain⟩ (by simp) rfl 64 rfl
          rw [show x64 = .bool true from t64] at h64
          clear t64
          obtain ⟨x65, h65, t65⟩ := hdep ⟨50, .data⟩ (by simp) rfl 65 rfl
          rw [show x65 = .agg #[.int .u64 u0, .int .u64 u1, .int .u64 u2, .int .u64 u3] from t65] at h65
          clear t65
          obtain ⟨x66, h66, t66⟩ := hdep ⟨51, .data⟩ (by simp) rfl 66 rfl
          rw [show x66 = .agg #[.int .u64 a2, .int .u64 b2, .int .u64 c2, .int .u64 d2] from t66] at h66
          clear t66
          have HK := Lib.hid hK
          have HS := Lib.hid hS
          clear hK ham hdep hS hd
          refine go_guard 49 64 true rfl rfl h64 ?_
          go_simp
          refine (bminus_any (S := [u0, u1, u2, u3]) (T := [a2, b2, c2, d2]) hwfU.out HWF.out.2 w).mono ?_
          rintro e w' ⟨rfl, hb⟩
          exact HK.out _ w' hb (StB.bel HS.out hb) rfl
        refine steps_cons (not_ch (by kernel_rfl) fun _n act w K hS hd ham hdep hK => ?_) ?_
        · skip
          have h6 := (ham 6 (by kernel_rfl)).trans e6
          obtain ⟨x64, h64, t64⟩ := hdep ⟨49, .guard⟩ (by simp) rfl 64 rfl
          rw [show x64 = .bool true from t64] at h64
          clear t64
          have HK := Lib.hid hK
          have HS := Lib.hid hS
          clear hK ham hdep hS hd
          refine go_guard 49 64 true rfl rfl h64 ?_
          obtain ⟨c0, c1, c2_, c3⟩ := cellsK hTA HS.out.1
          go_simp
          exact HK.out _ w (Below.refl _ _) HS.out rfl
        refine steps_cons (not_ch (by kernel_rfl) fun _n act w K hS hd ham hdep hK => ?_) ?_
        · skip
          obtain ⟨x64, h64, t64⟩ := hdep ⟨49, .guard⟩ (by simp) rfl 64 rfl
          rw [show x64 = .bool true from t64] at h64
          clear t64
          obtain ⟨x67, h67, t67⟩ := hdep ⟨52, .data⟩ (by simp) rfl 67 rfl
          rw [show x67 = svL (minusB ([u0, u1, u2, u3]) ([a2, b2, c2, d2])) from t67] at h67
          clear t67
          obtain ⟨x68, h68, t68⟩ := hdep ⟨53, .data⟩ (by simp) rfl 68 rfl
          rw [show x68 = .agg #[.int .u64 a2, .int .u64 b2, .int .u64 c2, .int .u64 d2] from t68] at h68
          clear t68
          have HK := Lib.hid hK
          have HS := Lib.hid hS
          clear hK ham hdep hS hd
          refine go_guard 49 64 true rfl rfl h64 ?_
          go_simp
          refine (bor_any (S := minusB ([u0, u1, u2, u3]) ([a2, b2, c2, d2])) (T := [a2, b2, c2, d2]) (wf_minus hwfU.out HWF.out.2) HWF.out.2 w).mono ?_
          rintro e w' ⟨rfl, hb⟩
          exact HK.out _ w' hb (StB.bel HS.out hb) rfl
        refine steps_cons (not_ch (by kernel_rfl) fun _n act w K hS hd ham hdep hK => ?_) ?_
        · skip
          have h7 := (ham 7 (by kernel_rfl)).trans e7
          obtain ⟨x64, h64, t64⟩ := hdep ⟨49, .guard⟩ (by simp) rfl 64 rfl
          rw [show x64 = .bool true from t64] at h64
          clear t64
          have HK := Lib.hid hK
          have HS := Lib.hid hS
          clear hK ham hdep hS hd
          refine go_guard 49 64 true rfl rfl h64 ?_
          obtain ⟨c0, c1, c2_, c3⟩ := cellsK hUA HS.out.1
          go_simp
          exact HK.out _ w (Below.refl _ _) HS.out rfl
        refine steps_cons (not_ch (by kernel_rfl) fun _n act w K hS hd ham hdep hK => ?_) ?_
        · skip
          obtain ⟨x64, h64, t64⟩ := hdep ⟨49, .guard⟩ (by simp) rfl 64 rfl
          rw [show x64 = .bool true from t64] at h64
          clear t64
          obtain ⟨x69, h69, t69⟩ := hdep ⟨54, .data⟩ (by simp) rfl 69 rfl
          rw [show x69 = svL (orB (minusB ([u0, u1, u2, u3]) ([a2, b2, c2, d2])) ([a2, b2, c2, d2])) from t69] at h69
          clear t69
          obtain ⟨x70, h70, t70⟩ := hdep ⟨55, .data⟩ (by simp) rfl 70 rfl
          rw [show x70 = .agg #[.int .u64 u0, .int .u64 u1, .int .u64 u2, .int .u64 u3] from t70] at h70
          clear t70
          have HK := Lib.hid hK
          have HS := Lib.hid hS
          clear hK ham hdep hS hd
          refine go_guard 49 64 true rfl rfl h64 ?_
          obtain ⟨p0, p1, p2, p3, hp, _⟩ := wf_form (hwfU.out)
          rw [show (svL (orB (minusB ([u0, u1, u2, u3]) ([a2, b2, c2, d2])) ([a2, b2, c2, d2])) : Value) = .agg #[.int .u64 p0, .int .u64 p1, .int .u64 p2, .int .u64 p3] from (show svL (orB (minusB ([u0, u1, u2, u3]) ([a2, b2, c2, d2])) ([a2, b2, c2, d2])) = .agg #[.int .u64 p0, .int .u64 p1, .int .u64 p2, .int .u64 p3] by rw [show orB (minusB ([u0, u1, u2, u3]) ([a2, b2, c2, d2])) ([a2, b2, c2, d2]) = [u0, u1, u2, u3] from (by have := or_minus_or HWF.out.1 HWF.out.2; rw [hU.out] at this; exact this), hp]; rfl)] at h69
          rw [show (.agg #[.int .u64 u0, .int .u64 u1, .int .u64 u2, .int .u64 u3] : Value) = .agg #[.int .u64 p0, .int .u64 p1, .int .u64 p2, .int .u64 p3] from (show svL ([u0, u1, u2, u3]) = .agg #[.int .u64 p0, .int .u64 p1, .int .u64 p2, .int .u64 p3] by rw [hp]; rfl)] at h70
          clear hp
          go_simp
          exact HK.out _ w (Below.refl _ _) HS.out rfl
        refine steps_cons (not_ch (by kernel_rfl) fun _n act w K hS hd ham hdep hK => ?_) ?_
        · skip
          obtain ⟨x64, h64, t64⟩ := hdep ⟨49, .data⟩ (by simp) rfl 64 rfl
          rw [show x64 = .bool true from t64] at h64
          clear t64
          obtain ⟨x71, h71, t71⟩ := hdep ⟨56, .data⟩ (by simp) rfl 71 rfl
          rw [show x71 = .bool true from t71] at h71
          clear t71
          have HK := Lib.hid hK
          have HS := Lib.hid hS
          clear hK ham hdep hS hd
          refine go_plain rfl ?_
          go_simp
          exact HK.out _ w (Below.refl _ _) HS.out rfl
        refine steps_cons (not_ch (by kernel_rfl) fun _n act w K hS hd ham hdep hK => ?_) ?_
        · skip
          obtain ⟨x72, h72, t72⟩ := hdep ⟨57, .data⟩ (by simp) rfl 72 rfl
          rw [show x72 = .bool true from t72] at h72
          clear t72
          have HK := Lib.hid hK
          have HS := Lib.hid hS
          clear hK ham hdep hS hd
          refine go_plain rfl ?_
          go_simp
          exact HK.out _ w (Below.refl _ _) HS.out rfl
        refine steps_cons (not_ch (by kernel_rfl) fun _n act w K hS hd ham hdep hK => ?_) ?_
        · skip
          have h5 := (ham 5 (by kernel_rfl)).trans e5
          obtain ⟨x73, h73, t73⟩ := hdep ⟨58, .guard⟩ (by simp) rfl 73 rfl
          rw [show x73 = .bool true from t73] at h73
          clear t73
          have HK := Lib.hid hK
          have HS := Lib.hid hS
          clear hK ham hdep hS hd
          refine go_guard 58 73 true rfl rfl h73 ?_
          obtain ⟨c0, c1, c2_, c3⟩ := cellsK hSA HS.out.1
          go_simp
          exact HK.out _ w (Below.refl _ _) HS.out rfl
        refine steps_cons (not_ch (by kernel_rfl) fun _n act w K hS hd ham hdep hK => ?_) ?_
        · skip
          have h5 := (ham 5 (by kernel_rfl)).trans e5
          obtain ⟨x73, h73, t73⟩ := hdep ⟨58, .guard⟩ (by simp) rfl 73 rfl
          rw [show x73 = .bool true from t73] at h73
          clear t73
          have HK := Lib.hid hK
          have HS := Lib.hid hS
          clear hK ham hdep hS hd
          refine go_guard 58 73 true rfl rfl h73 ?_
          obtain ⟨c0, c1, c2_, c3⟩ := cellsK hSA HS.out.1
          go_simp
          exact HK.out _ w (Below.refl _ _) HS.out rfl
        refine steps_cons (not_ch (by kernel_rfl) fun _n act w K hS hd ham hdep hK => ?_) ?_
        · skip
          obtain ⟨x73, h73, t73⟩ := hdep ⟨58, .chain⟩ (by simp) rfl 73 rfl
          rw [show x73 = .bool true from t73] at h73
          clear t73
          obtain ⟨x74, h74, t74⟩ := hdep ⟨59, .data⟩ (by simp) rfl 74 rfl
          rw [show x74 = .agg #[.int .u64 a, .int .u64 b, .int .u64 c, .int .u64 d] from t74] at h74
          clear t74
          obtain ⟨x75, h75, t75⟩ := hdep ⟨60, .data⟩ (by simp) rfl 75 rfl
          rw [show x75 = .agg #[.int .u64 a, .int .u64 b, .int .u64 c, .int .u64 d] from t75] at h75
          clear t75
          have HK := Lib.hid hK
          have HS := Lib.hid hS
          clear hK ham hdep hS hd
          refine go_guard 58 73 true rfl rfl h73 ?_
          go_simp
          refine (bor_any (S := [a, b, c, d]) (T := [a, b, c, d]) HWF.out.1 HWF.out.1 w).mono ?_
          rintro e w' ⟨rfl, hb⟩
          exact HK.out _ w' hb (StB.bel HS.out hb) rfl
        refine steps_cons (not_ch (by kernel_rfl) fun _n act w K hS hd ham hdep hK => ?_) ?_
        · skip
          have h5 := (ham 5 (by kernel_rfl)).trans e5
          obtain ⟨x73, h73, t73⟩ := hdep ⟨58, .guard⟩ (by simp) rfl 73 rfl
          rw [show x73 = .bool true from t73] at h73
          clear t73
          have HK := Lib.hid hK
          have HS := Lib.hid hS
          clear hK ham hdep hS hd
          refine go_guard 58 73 true rfl rfl h73 ?_
          obtain ⟨c0, c1, c2_, c3⟩ := cellsK hSA HS.out.1
          go_simp
          exact HK.out _ w (Below.refl _ _) HS.out rfl
        refine steps_cons (not_ch (by kernel_rfl) fun _n act w K hS hd ham hdep hK => ?_) ?_
        · skip
          obtain ⟨x73, h73, t73⟩ := hdep ⟨58, .guard⟩ (by simp) rfl 73 rfl
          rw [show x73 = .bool true from t73] at h73
          clear t73
          obtain ⟨x76, h76, t76⟩ := hdep ⟨61, .data⟩ (by simp) rfl 76 rfl
          rw [show x76 = svL (orB ([a, b, c, d]) ([a, b, c, d])) from t76] at h76
          clear t76
          obtain ⟨x77, h77, t77⟩ := hdep ⟨62, .data⟩ (by simp) rfl 77 rfl
          rw [show x77 = .agg #[.int .u64 a, .int .u64 b, .int .u64 c, .int .u64 d] from t77] at h77
          clear t77
          have HK := Lib.hid hK
          have HS := Lib.hid hS
          clear hK ham hdep hS hd
          refine go_guard 58 73 true rfl rfl h73 ?_
          obtain ⟨p0, p1, p2, p3, hp, _⟩ := wf_form (HWF.out.1)
          rw [show (svL (orB ([a, b, c, d]) ([a, b, c, d])) : Value) = .agg #[.int .u64 p0, .int .u64 p1, .int .u64 p2, .int .u64 p3] from (show svL (orB ([a, b, c, d]) ([a, b, c, d])) = .agg #[.int .u64 p0, .int .u64 p1, .int .u64 p2, .int .u64 p3] by rw [show orB ([a, b, c, d]) ([a, b, c, d]) = [a, b, c, d] from or_self' HWF.out.1, hp]; rfl)] at h76
          rw [show (.agg #[.int .u64 a, .int .u64 b, .int .u64 c, .int .u64 d] : Value) = .agg #[.int .u64 p0, .int .u64 p1, .int .u64 p2, .int .u64 p3] from (show svL ([a, b, c, d]) = .agg #[.int .u64 p0, .int .u64 p1, .int .u64 p2, .int .u64 p3] by rw [hp]; rfl)] at h77
          clear hp
          go_simp
          exact HK.out _ w (Below.refl _ _) HS.out rfl
        refine steps_cons (not_ch (by kernel_rfl) fun _n act w K hS hd ham hdep hK => ?_) ?_
        · skip
          obtain ⟨x73, h73, t73⟩ := hdep ⟨58, .data⟩ (by simp) rfl 73 rfl
          rw [show x73 = .bool true from t73] at h73
          clear t73
          obtain ⟨x78, h78, t78⟩ := hdep ⟨63, .data⟩ (by simp) rfl 78 rfl
          rw [show x78 = .bool true from t78] at h78
          clear t78
          have HK := Lib.hid hK
          have HS := Lib.hid hS
          clear hK ham hdep hS hd
          refine go_plain rfl ?_
          go_simp
          exact HK.out _ w (Below.refl _ _) HS.out rfl
        refine steps_cons (not_ch (by kernel_rfl) fun _n act w K hS hd ham hdep hK => ?_) ?_
        · skip
          obtain ⟨x79, h79, t79⟩ := hdep ⟨64, .data⟩ (by simp) rfl 79 rfl
          rw [show x79 = .bool true from t79] at h79
          clear t79
          have HK := Lib.hid hK
          have HS := Lib.hid hS
          clear hK ham hdep hS hd
          refine go_plain rfl ?_
          go_simp
          exact HK.out _ w (Below.refl _ _) HS.out rfl
        refine steps_cons (not_ch (by kernel_rfl) fun _n act w K hS hd ham hdep hK => ?_) ?_
        · skip
          have h5 := (ham 5 (by kernel_rfl)).trans e5
          obtain ⟨x80, h80, t80⟩ := hdep ⟨65, .guard⟩ (by simp) rfl 80 rfl
          rw [show x80 = .bool true from t80] at h80
          clear t80
          have HK := Lib.hid hK
          have HS := Lib.hid hS
          clear hK ham hdep hS hd
          refine go_guard 65 80 true rfl rfl h80 ?_
          obtain ⟨c0, c1, c2_, c3⟩ := cellsK hSA HS.out.1
          go_simp
          exact HK.out _ w (Below.refl _ _) HS.out rfl
        refine steps_cons (not_ch (by kernel_rfl) fun _n act w K hS hd ham hdep hK => ?_) ?_
        · skip
          have h5 := (ham 5 (by kernel_rfl)).trans e5
          obtain ⟨x80, h80, t80⟩ := hdep ⟨65, .guard⟩ (by simp) rfl 80 rfl
          rw [show x80 = .bool true from t80] at h80
          clear t80
          have HK := Lib.hid hK
          have HS := Lib.hid hS
          clear hK ham hdep hS hd
          refine go_guard 65 80 true rfl rfl h80 ?_
          obtain ⟨c0, c1, c2_, c3⟩ := cellsK hSA HS.out.1
          go_simp
          exact HK.out _ w (Below.refl _ _) HS.out rfl
        refine steps_cons (not_ch (by kernel_rfl) fun _n act w K hS hd ham hdep hK => ?_) ?_
        · skip
          obtain ⟨x80, h80, t80⟩ := hdep ⟨65, .chain⟩ (by simp) rfl 80 rfl
          rw [show x80 = .bool true from t80] at h80
          clear t80
          obtain ⟨x81, h81, t81⟩ := hdep ⟨66, .data⟩ (by simp) rfl 81 rfl
          rw [show x81 = .agg #[.int .u64 a, .int .u64 b, .int .u64 c, .int .u64 d] from t81] at h81
          clear t81
          obtain ⟨x82, h82, t82⟩ := hdep ⟨67, .data⟩ (by simp) rfl 82 rfl
          rw [show x82 = .agg #[.int .u64 a, .int .u64 b, .int .u64 c, .int .u64 d] from t82] at h82
          clear t82
          have HK := Lib.hid hK
          have HS := Lib.hid hS
          clear hK ham hdep hS hd
          refine go_guard 65 80 true rfl rfl h80 ?_
          go_simp
          refine (bminus_any (S := [a, b, c, d]) (T := [a, b, c, d]) HWF.out.1 HWF.out.1 w).mono ?_
          rintro e w' ⟨rfl, hb⟩
          exact HK.out _ w' hb (StB.bel HS.out hb) rfl
        refine steps_cons (not_ch (by kernel_rfl) fun _n act w K hS hd ham hdep hK => ?_) ?_
        · skip
          obtain ⟨x80, h80, t80⟩ := hdep ⟨65, .guard⟩ (by simp) rfl 80 rfl
          rw [show x80 = .bool true from t80] at h80
          clear t80
          obtain ⟨x83, h83, t83⟩ := hdep ⟨68, .data⟩ (by simp) rfl 83 rfl
          rw [show x83 = svL (minusB ([a, b, c, d]) ([a, b, c, d])) from t83] at h83
          clear t83
          have HK := Lib.hid hK
          have HS := Lib.hid hS
          clear hK ham hdep hS hd
          refine go_guard 65 80 true rfl rfl h80 ?_
          go_simp
          refine (bnext_any (S := minusB ([a, b, c, d]) ([a, b, c, d])) (wf_minus HWF.out.1 HWF.out.1) 0 (by omega) w HS.out.2.1 HS.out.2.2).mono ?_
          rintro e w' ⟨v, rfl, hv, hb⟩
          rw [next_unique hv (minus_self_next HWF.out.1)]
          exact HK.out _ w' hb (StB.bel HS.out hb) rfl
        refine steps_cons (not_ch (by kernel_rfl) fun _n act w K hS hd ham hdep hK => ?_) ?_
        · skip
          obtain ⟨x80, h80, t80⟩ := hdep ⟨65, .guard⟩ (by simp) rfl 80 rfl
          rw [show x80 = .bool true from t80] at h80
          clear t80
          obtain ⟨x84, h84, t84⟩ := hdep ⟨69, .data⟩ (by simp) rfl 84 rfl
          rw [show x84 = .int .i64 (-1) from t84] at h84
          clear t84
          have HK := Lib.hid hK
          have HS := Lib.hid hS
          clear hK ham hdep hS hd
          refine go_guard 65 80 true rfl rfl h80 ?_
          go_simp
          exact HK.out _ w (Below.refl _ _) HS.out rfl
        refine steps_cons (not_ch (by kernel_rfl) fun _n act w K hS hd ham hdep hK => ?_) ?_
        · skip
          obtain ⟨x80, h80, t80⟩ := hdep ⟨65, .data⟩ (by simp) rfl 80 rfl
          rw [show x80 = .bool true from t80] at h80
          clear t80
          obtain ⟨x85, h85, t85⟩ := hdep ⟨70, .data⟩ (by simp) rfl 85 rfl
          rw [show x85 = .bool true from t85] at h85
          clear t85
          have HK := Lib.hid hK
          have HS := Lib.hid hS
          clear hK ham hdep hS hd
          refine go_plain rfl ?_
          go_simp
          exact HK.out _ w (Below.refl _ _) HS.out rfl
        refine steps_cons (not_ch (by kernel_rfl) fun _n act w K hS hd ham hdep hK => ?_) ?_
        · skip
          obtain ⟨x86, h86, t86⟩ := hdep ⟨71, .data⟩ (by simp) rfl 86 rfl
          rw [show x86 = .bool true from t86] at h86
          clear t86
          have HK := Lib.hid hK
          have HS := Lib.hid hS
          clear hK ham hdep hS hd
          refine go_plain rfl ?_
          go_simp
          exact HK.out _ w (Below.refl _ _) HS.out rfl
        exact steps_done 73 (by omega)
      · intro vs a w' hF hty hS
        have hr := hF.mine 72 4 (by kernel_rfl) (by kernel_rfl)
        rw [show vs 72 = .bool true from hty 72 (by decide)] at hr
        have hd := hF.defers.trans d0
        have HX := Lib.hid (fb_call HBL.out hS.1)
        clear hF hty hS hS0
        obtain ⟨tm, df⟩ := a
        obtain rfl : df = [] := hd
        go_wp2
        exact bodyPost_ret (by simp [results, Tryd.results6, go_sem, hr]) rfl ⟨rfl, HX.out⟩
end Go.Proofs.YtikoabnonmkhkaaDoor
