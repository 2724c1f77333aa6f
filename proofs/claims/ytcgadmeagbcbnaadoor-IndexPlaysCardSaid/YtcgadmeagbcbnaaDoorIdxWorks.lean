/- The walk of ints. No condition. The chapter's three cards; what an index has at its beginning. No condition. The law's works. No condition but the library's table. -/
import Derived.Test.YtcgadmeagbcbnaaDoorIdxNew
import Derived.Test.YtcgadmeagbcbnaaDoorIdxBc
namespace Go.Proofs.YtcgadmeagbcbnaaDoor
section
open Go.RowKit

theorem list_ext_getD {a b : List Int} (hl : a.length = b.length) (h : ∀ j, j < a.length → a.getD j 0 = b.getD j 0) : a = b := by
  apply List.ext_getElem hl
  intro i h1 h2
  have := h i h1
  simpa [List.getD_eq_getElem?_getD, h1, h2] using this
theorem Ints.parts {w : World} {n : Nat} {v : Value} {l : List Int} (h : Ints w n v l) : ∃ x c, v = .slice x l.length c ∧ (l = [] ∨ ∃ b o, x = some ⟨b, o, none⟩ ∧ b < n ∧ ∀ j, j < l.length → w.cell? ⟨b, o + j, none⟩ = some (.int .i64 (l.getD j 0))) := by
  rcases h with ⟨rfl, a, c, rfl, _⟩ | ⟨b, o, c, rfl, hl, h1, h2⟩
  · exact ⟨a, c, rfl, .inl rfl⟩
  · exact ⟨_, c, rfl, .inr ⟨b, o, rfl, h1, h2⟩⟩
/-- Are two lists alike? -/
def alk (a b : List Int) : Bool := decide (a = b)
theorem alk_same (a : List Int) : alk a a = true := by simp [alk]
theorem ints_len (x y : Option Addr) (n m c d : Nat) (h : n ≠ m) (w : World) : Calls Tryd.prog 22 #[.slice x n c, .slice y m d] w fun e w' => e = .returned (.bool false) ∧ Below w.heap.size w w' := by
  have hB : ((n : Int) != (m : Int)) = true := by simp; omega
  clear h
  go_enter Tryd.func22, Tryd.ntmps22
  go_wp2
  go_ret
  exact ⟨rfl, Below.refl _ _⟩
theorem ints_nil (x y : Option Addr) (c d : Nat) (w : World) : Calls Tryd.prog 22 #[.slice x 0 c, .slice y 0 d] w fun e w' => e = .returned (.bool true) ∧ Below w.heap.size w w' := by
  go_enter Tryd.func22, Tryd.ntmps22
  go_wp2
  refine wp_loop_rounds 1 ?_
  rw [rounds_succ]
  go_wp2
  go_ret
  exact ⟨rfl, Below.refl _ _⟩
set_option maxHeartbeats 1000000 in
theorem ints_cells (b o b' o' n c d : Nat) (l m : List Int) (w : World) (hl : l.length = n) (hm : m.length = n) (hn : n ≤ 1000000)
    (h1 : ∀ j, j < n → w.cell? ⟨b, o + j, none⟩ = some (.int .i64 (l.getD j 0))) (h2 : ∀ j, j < n → w.cell? ⟨b', o' + j, none⟩ = some (.int .i64 (m.getD j 0))) :
    Calls Tryd.prog 22 #[.slice (some ⟨b, o, none⟩) n c, .slice (some ⟨b', o', none⟩) n d] w fun e w' => e = .returned (.bool (alk l m)) ∧ Below w.heap.size w w' := by
  have H1 := Lib.hid h1
  have H2 := Lib.hid h2
  have HL := Lib.hid hl
  have HM := Lib.hid hm
  clear h1 h2 hl hm
  go_enter Tryd.func22, Tryd.ntmps22
  go_wp2
  go_loopw [5] (fun i wr => ∃ k nd : Nat, k ≤ n ∧ i = .int .i64 k ∧ (∀ j, j < k → l.getD j 0 = m.getD j 0) ∧ wr = w.drewN nd) (fun i _ => n - (intOf i).toNat)
  case atStart => exact ⟨0, 0, Nat.zero_le _, rfl, fun j hj => by omega, rfl⟩
  case round =>
    obtain ⟨k, nd, hk, rfl, heq, rfl⟩ := hrel
    have HE := Lib.hid heq
    clear heq
    by_cases hlt : k < n
    · have c1 : w.cell? ⟨b, o + k, none⟩ = some (.int .i64 (l.getD k 0)) := H1.out k hlt
      have c2 : w.cell? ⟨b', o' + k, none⟩ = some (.int .i64 (m.getD k 0)) := H2.out k hlt
      by_cases he : l.getD k 0 = m.getD k 0
      · have HEK := Lib.hid he
        obtain ⟨x, hx⟩ : ∃ x, m.getD k 0 = x := ⟨_, rfl⟩
        rw [he, hx] at c1
        rw [hx] at c2
        clear hx he
        have b0 : (0 : Int) ≤ k := by omega
        have b1 : (k : Int) < n := by omega
        go_wp2
        go_quiet (fail)
        go_wp2
        go_roundw
        case rel => exact ⟨k + 1, _, by omega, by go_num, fun j hj => by
          by_cases e : j = k
          · subst e; exact HEK.out
          · exact HE.out j (by omega), by first | rfl | simp⟩
        case measure => simp [intOf]; omega
      · have hne : alk l m = false := by
          unfold alk
          rw [decide_eq_false_iff_not]
          intro e; exact he (by rw [e])
        have HNE := Lib.hid hne
        obtain ⟨x, hx⟩ : ∃ x, l.getD k 0 = x := ⟨_, rfl⟩
        obtain ⟨y, hy⟩ : ∃ y, m.getD k 0 = y := ⟨_, rfl⟩
        rw [hx] at c1
        rw [hy] at c2
        rw [hx, hy] at he
        have hB : (x != y) = true := by simp [he]
        clear hx hy he hne
        have b0 : (0 : Int) ≤ k := by omega
        have b1 : (k : Int) < n := by omega
        go_wp2
        go_quiet (fail)
        go_wp2
        go_ret
        exact ⟨ret_b HNE.out.symm, bel_drewN (bel_drewN (Below.refl _ _) _) _⟩
    · obtain rfl : n = k := by omega
      clear hlt
      go_wp2
      go_ret
      exact ⟨ret_b (by
        unfold alk
        rw [eq_comm, decide_eq_true_iff]
        exact list_ext_getD (HL.out.trans HM.out.symm) (fun j hj => HE.out j (by rw [← HL.out]; exact hj))), bel_drewN (Below.refl _ _) _⟩

theorem ints_any (n : Nat) (u v : Value) (l m : List Int) (w : World) (h1 : Ints w n u l) (h2 : Ints w n v m) (hn : l.length ≤ 1000000) :
    Calls Tryd.prog 22 #[u, v] w fun e w' => e = .returned (.bool (alk l m)) ∧ Below w.heap.size w w' := by
  obtain ⟨x, c, rfl, p1⟩ := h1.parts
  obtain ⟨y, d, rfl, p2⟩ := h2.parts
  by_cases hl : l.length = m.length
  · rcases p1 with rfl | ⟨b, o, rfl, _, q1⟩
    · obtain rfl : m = [] := List.eq_nil_of_length_eq_zero hl.symm
      rw [alk_same]
      exact ints_nil _ _ _ _ w
    · rcases p2 with rfl | ⟨b', o', rfl, _, q2⟩
      · obtain rfl : l = [] := List.eq_nil_of_length_eq_zero hl
        rw [alk_same]
        exact ints_nil _ _ _ _ w
      · rw [← hl] at q2 ⊢
        exact ints_cells b o b' o' l.length c d l m w rfl hl.symm hn q1 q2
  · rw [show alk l m = false from by unfold alk; rw [decide_eq_false_iff_not]; intro e; exact hl (by rw [e])]
    exact ints_len _ _ _ _ _ _ hl w
theorem ints_eq (n : Nat) (u v : Value) (l : List Int) (w : World) (h1 : Ints w n u l) (h2 : Ints w n v l) (hn : l.length ≤ 1000000) :
    Calls Tryd.prog 22 #[u, v] w fun e w' => e = .returned (.bool true) ∧ Below w.heap.size w w' := by
  have := ints_any n u v l l w h1 h2 hn
  rw [alk_same] at this
  exact this
/-- A slice that is written out. -/
theorem ints_lit (w : World) (l : List Int) : Ints (w.alloc (.cells (l.map (Value.int .i64)).toArray 3)) (w.heap.size + 1) (.slice (some ⟨w.heap.size, 0, none⟩) l.length l.length) l := by
  refine .inr ⟨w.heap.size, 0, l.length, rfl, Nat.le_refl _, Nat.lt_succ_self _, fun j hj => ?_⟩
  rw [Nat.zero_add]
  exact Arr.int (Arr.new w 3 (l.map (Value.int .i64))) hj
end
section
open Go.RowKit
attribute [local irreducible] Calls

def abs3 : List (List (Int × Int)) := [[], [(3, 2)], [(3, 2), (4, 0)]]
def M0 : IM := ⟨List.replicate 256 0, fun _ => [0, 0, 0, 0]⟩
theorem wf_lit {k e : Int} (h : (decide (-1000 ≤ k) && decide (k ≤ 1000) && decide (-1000 ≤ e) && decide (e ≤ 1000)) = true) : wf2 k e := by
  simp only [Bool.and_eq_true, decide_eq_true_eq] at h
  refine ⟨?_, ?_⟩ <;> (simp [Lit.wf, IntKind.min, IntKind.max, IntKind.signed, IntKind.bits]; omega)
theorem good_zero (abs : List (List (Int × Int))) : IGood abs M0 := by
  have hH : ∀ i, (List.replicate 256 (0 : Int)).getD i 0 = 0 := fun i => by rw [List.getD_eq_getElem?_getD, List.getElem?_replicate]; split <;> rfl
  refine ⟨by show (List.replicate 256 (0 : Int)).length = 256; rw [List.length_replicate], fun s _ => wf_zero, fun i _ => ?_, fun s hs _ i _ => ?_⟩
  · show 0 ≤ (List.replicate 256 (0 : Int)).getD i 0 ∧ (List.replicate 256 (0 : Int)).getD i 0 ≤ 40
    rw [hH]; omega
  · show hasS [0, 0, 0, 0] i = hasK (absOf abs ((List.replicate 256 (0 : Int)).getD i 0 - 1)) s
    rw [hH, has_zero, absOf_out (by omega)]; rfl
theorem abs3_len : abs3.length ≤ 1000 := by decide
theorem abs3_five : ∀ i, i < abs3.length → (abs3.getD i []).length ≤ 5 := by decide
theorem abs3_wf : ∀ i, i < abs3.length → ∀ q ∈ abs3.getD i [], wf2 q.1 q.2 := fun i hi q hq => by
  have h : ∀ i, i < 3 → ∀ q ∈ abs3.getD i [], (decide (-1000 ≤ q.1) && decide (q.1 ≤ 1000) && decide (-1000 ≤ q.2) && decide (q.2 ≤ 1000)) = true := by decide
  exact wf_lit (h i hi q hq)
theorem POut.base {w W W' : World} {v : Value} {vs : List Value} {L : List (List (Int × Int))} (h : POut W W' v vs L) (hb : Below w.heap.size w W) : POut w W' v vs L :=
  ⟨fb_call hb h.bel, ownL_mono h.row hb.size, h.len, fun i hi => ownL_mono (h.each i hi) hb.size⟩
def W3 (w : World) : World := ((((w.alloc (.cells #[] 78)).alloc (.cells #[.int .i64 3, .int .i64 2] 78)).alloc (.cells #[.int .i64 3, .int .i64 2, .int .i64 4, .int .i64 0] 78)).alloc
  (.cells #[.slice (some ⟨w.heap.size, 0, none⟩) 0 0, .slice (some ⟨w.heap.size + 1, 0, none⟩) 1 1, .slice (some ⟨w.heap.size + 1 + 1, 0, none⟩) 2 2] 76))
theorem w3_bel (w : World) : Below w.heap.size w (W3 w) := fb_alloc (fb_alloc (fb_alloc (fb_alloc (Below.refl _ _) _) _) _) _
theorem w3_hss (w : World) : Hss (W3 w) (W3 w).heap.size (.slice (some ⟨w.heap.size + 1 + 1 + 1, 0, none⟩) 3 3) abs3 := by
  have hs : (W3 w).heap.size = w.heap.size + 1 + 1 + 1 + 1 := by unfold W3; simp only [World.size_alloc]
  have A1 := Arr.new (w.alloc (.cells #[] 78)) 78 [.int .i64 3, .int .i64 2]
  have A2 := Arr.new ((w.alloc (.cells #[] 78)).alloc (.cells #[.int .i64 3, .int .i64 2] 78)) 78 [.int .i64 3, .int .i64 2, .int .i64 4, .int .i64 0]
  have A3 := Arr.new (((w.alloc (.cells #[] 78)).alloc (.cells #[.int .i64 3, .int .i64 2] 78)).alloc (.cells #[.int .i64 3, .int .i64 2, .int .i64 4, .int .i64 0] 78)) 76
    [.slice (some ⟨w.heap.size, 0, none⟩) 0 0, .slice (some ⟨w.heap.size + 1, 0, none⟩) 1 1, .slice (some ⟨w.heap.size + 1 + 1, 0, none⟩) 2 2]
  simp only [World.size_alloc] at A1 A2 A3
  have B1 : Arr (W3 w) _ _ _ := (Arr.alloc A1 _).alloc _
  have B2 : Arr (W3 w) _ _ _ := Arr.alloc A2 _
  have B3 : Arr (W3 w) _ _ _ := A3
  refine ⟨_, _, rfl, .inr ⟨w.heap.size + 1 + 1 + 1, 0, rfl, by omega, fun i hi => ?_⟩⟩
  have hi3 : i < 3 := hi
  match i, hi3 with
  | 0, _ => exact ⟨_, _, B3.cell 0, .inl rfl⟩
  | 1, _ =>
    refine ⟨_, _, B3.cell 1, .inr ⟨w.heap.size + 1, 0, rfl, by omega, fun j hj => ?_⟩⟩
    have hj1 : j < 1 := hj
    match j, hj1 with
    | 0, _ => exact ⟨B1.cell 0, B1.cell 1⟩
  | 2, _ =>
    refine ⟨_, _, B3.cell 2, .inr ⟨w.heap.size + 1 + 1, 0, rfl, by omega, fun j hj => ?_⟩⟩
    have hj2 : j < 2 := hj
    match j, hj2 with
    | 0, _ => exact ⟨B2.cell 0, B2.cell 1⟩
    | 1, _ => exact ⟨B2.cell 2, B2.cell 3⟩
set_option maxRecDepth 100000 in
theorem three_any (w : World) : Calls Tryd.prog 29 #[] w fun e w' => ∃ u vs, e = .returned u ∧ POut w w' u vs abs3 := by
  have HP := Lib.hid (pool_any (W3 w) _ abs3 (w3_hss w) (by decide))
  have HB := Lib.hid (w3_bel w)
  unfold W3 at HP HB
  go_enter Tryd.func29, Tryd.ntmps29
  go_wp2_with fail
  refine HP.out.mono ?_
  rintro e w1 ⟨u, vs, rfl, hp⟩
  have HO := Lib.hid (hp.base HB.out)
  clear hp HP HB
  go_wp2
  go_ret
  exact ⟨_, vs, rfl, HO.out⟩
end
section
open Go.RowKit
attribute [local irreducible] Calls

theorem wf_having {abs : List (List (Int × Int))} {m : IM} (h : IGood abs m) (kd e : Int) : wfB (havingI kd e m) := by
  unfold havingI; split
  · exact wf_zero
  · exact h.wf _ (kx_lt _ _)
set_option maxRecDepth 100000 in
set_option maxHeartbeats 4000000 in
theorem works_any (w : World) (hT : TabAt w) (h0 : 0 < w.heap.size) : Calls Tryd.prog 28 #[] w fun e w' => e = .returned (.bool true) ∧ Below w.heap.size w w' := by
  have HTT := Lib.hid (And.intro hT h0)
  clear hT h0
  go_enter Tryd.func28, Tryd.ntmps28
  go_wp2_with fail
  refine (tr_new w).mono ?_
  rintro e wa_ ⟨rfl, hT0_⟩
  have HT1 := Lib.hid (hT0_ w (Below.refl _ _))
  obtain ⟨T, hTn_⟩ : ∃ T, w.heap.size = T := ⟨_, rfl⟩
  have HTN := Lib.hid hTn_
  rw [hTn_] at HT1 ⊢
  clear hT0_ hTn_
  go_wp2_with fail
  refine (three_any wa_).mono ?_
  rintro e wb_ ⟨u_, vs_, rfl, hp_⟩
  have HP_ := Lib.hid hp_
  clear hp_
  go_wp2_with fail
  refine (inew_any (w0 := w) (col := fun j => if j < w.heap.size then 0 else 1) (c := 1) (HT1.out.1.below HP_.out.bel) (fun j hj => if_neg (Nat.not_lt.2 (HT1.out.1.base hj).1)) (by simp) (by simp) HP_.out.cards abs3_len abs3_five abs3_wf (fun _ => True) trivial (fun _ _ _ _ _ _ => trivial)).mono ?_
  rintro e wc_ ⟨b, q, rfl, hbT_, hba_, _, _, hN_⟩
  have HBT := Lib.hid hbT_
  have HA := Lib.hid hba_
  obtain ⟨M0_, hM0_⟩ : ∃ m, M0 = m := ⟨_, rfl⟩
  have hn0_ : IS w wc_ (recol wb_.heap.size (fun j => if j < w.heap.size then 0 else 1) 1) 1 b 100 q M0 := hN_.1.mono (n := 100) (by simp)
  have hg0_ := good_zero b.abs
  rw [hM0_] at hn0_ hg0_
  have HS := Lib.hid hn0_
  have HG := Lib.hid hg0_
  have HM0_ := Lib.hid hM0_
  clear hbT_ hba_ hN_ hM0_ HT1 HP_ hn0_ hg0_
  go_wp2_with fail
  refine (put_any HS.out HG.out (by omega) 3 1).mono ?_
  rintro e w1_ ⟨rfl, hN_⟩
  obtain ⟨M1_, hM1_⟩ : ∃ m, putI b.abs 3 1 M0_ = m := ⟨_, rfl⟩
  rw [hM1_] at hN_
  have HS2_ := Lib.hid (hN_.1.mono (n := 160) (by omega))
  have HG2_ := Lib.hid (show IGood b.abs M1_ from hM1_ ▸ good_put HG.out 3 1)
  have HM1_ := Lib.hid hM1_
  clear hN_ HS HG hM1_
  have HS := HS2_
  have HG := HG2_
  clear HS2_ HG2_
  go_wp2_with fail
  refine (put_any HS.out HG.out (by omega) 9 2).mono ?_
  rintro e w2_ ⟨rfl, hN_⟩
  obtain ⟨M2_, hM2_⟩ : ∃ m, putI b.abs 9 2 M1_ = m := ⟨_, rfl⟩
  rw [hM2_] at hN_
  have HS2_ := Lib.hid (hN_.1.mono (n := 220) (by omega))
  have HG2_ := Lib.hid (show IGood b.abs M2_ from hM2_ ▸ good_put HG.out 9 2)
  have HM2_ := Lib.hid hM2_
  clear hN_ HS HG hM2_
  have HS := HS2_
  have HG := HG2_
  clear HS2_ HG2_
  go_wp2_with fail
  refine (put_any HS.out HG.out (by omega) 4 0).mono ?_
  rintro e w3_ ⟨rfl, hN_⟩
  obtain ⟨M3_, hM3_⟩ : ∃ m, putI b.abs 4 0 M2_ = m := ⟨_, rfl⟩
  rw [hM3_] at hN_
  have HS2_ := Lib.hid (hN_.1.mono (n := 280) (by omega))
  have HG2_ := Lib.hid (show IGood b.abs M3_ from hM3_ ▸ good_put HG.out 4 0)
  have HM3_ := Lib.hid hM3_
  clear hN_ HS HG hM3_
  have HS := HS2_
  have HG := HG2_
  clear HS2_ HG2_
  go_wp2_with fail
  refine (having_any HS.out 3 2 (wf_lit (by decide))).mono ?_
  rintro e w4_ ⟨rfl, hb_⟩
  have HF := Lib.hid (show lst (havingI 3 2 M3_) = [3, 9] from by rw [← HM3_.out, ← HM2_.out, ← HM1_.out, ← HM0_.out, HA.out]; kernel_rfl)
  have HWF := Lib.hid (show wfB (havingI 3 2 M3_) from wf_having HG.out 3 2)
  have HS2_ := Lib.hid (HS.out.below hb_ 1)
  clear HS
  have HS := HS2_
  clear HS2_
  clear hb_
  generalize havingI 3 2 M3_ = S1_ at HF HWF ⊢
  go_wp2_with fail
  refine (ball_any HWF.out _ (HTT.out.1.below HTT.out.2 HS.out.bel) (Nat.lt_of_lt_of_le HTT.out.2 HS.out.bel.size)).mono ?_
  rintro e w5_ ⟨v_, rfl, hI_, hb_⟩
  rw [HF.out] at hI_
  have HI := Lib.hid hI_
  have HS2_ := Lib.hid (HS.out.below hb_ 1)
  clear HS
  have HS := HS2_
  clear HS2_
  clear hb_ hI_ HF HWF
  go_wp2_with fail
  refine (ints_eq (w5_.heap.size + 1) _ _ (zl [3, 9]) _ ((HI.out.below (fb_alloc (Below.refl _ _) _) (Nat.le_refl _)).mono (Nat.le_succ _)) (ints_lit w5_ (zl [3, 9])) (by decide)).mono ?_
  rintro e w6_ ⟨rfl, hb_⟩
  have HS2_ := Lib.hid (HS.out.below (fb_call (fb_alloc (Below.refl _ _) _) hb_) 1)
  clear HS
  have HS := HS2_
  clear HS2_
  clear hb_ HI
  go_wp2_with fail
  refine (having_any HS.out 4 0 (wf_lit (by decide))).mono ?_
  rintro e w7_ ⟨rfl, hb_⟩
  have HF := Lib.hid (show lst (havingI 4 0 M3_) = [9] from by rw [← HM3_.out, ← HM2_.out, ← HM1_.out, ← HM0_.out, HA.out]; kernel_rfl)
  have HWF := Lib.hid (show wfB (havingI 4 0 M3_) from wf_having HG.out 4 0)
  have HS2_ := Lib.hid (HS.out.below hb_ 1)
  clear HS
  have HS := HS2_
  clear HS2_
  clear hb_
  generalize havingI 4 0 M3_ = S2_ at HF HWF ⊢
  go_wp2_with fail
  refine (ball_any HWF.out _ (HTT.out.1.below HTT.out.2 HS.out.bel) (Nat.lt_of_lt_of_le HTT.out.2 HS.out.bel.size)).mono ?_
  rintro e w8_ ⟨v_, rfl, hI_, hb_⟩
  rw [HF.out] at hI_
  have HI := Lib.hid hI_
  have HS2_ := Lib.hid (HS.out.below hb_ 1)
  clear HS
  have HS := HS2_
  clear HS2_
  clear hb_ hI_ HF HWF
  go_wp2_with fail
  refine (ints_eq (w8_.heap.size + 1) _ _ (zl [9]) _ ((HI.out.below (fb_alloc (Below.refl _ _) _) (Nat.le_refl _)).mono (Nat.le_succ _)) (ints_lit w8_ (zl [9])) (by decide)).mono ?_
  rintro e w9_ ⟨rfl, hb_⟩
  have HS2_ := Lib.hid (HS.out.below (fb_call (fb_alloc (Below.refl _ _) _) hb_) 1)
  clear HS
  have HS := HS2_
  clear HS2_
  clear hb_ HI
  go_wp2_with fail
  refine (having_any HS.out 3 3 (wf_lit (by decide))).mono ?_
  rintro e w10_ ⟨rfl, hb_⟩
  have HF := Lib.hid (show (lst (havingI 3 3 M3_)).length = 0 from by rw [← HM3_.out, ← HM2_.out, ← HM1_.out, ← HM0_.out, HA.out]; kernel_rfl)
  have HWF := Lib.hid (show wfB (havingI 3 3 M3_) from wf_having HG.out 3 3)
  have HS2_ := Lib.hid (HS.out.below hb_ 1)
  clear HS
  have HS := HS2_
  clear HS2_
  clear hb_
  generalize havingI 3 3 M3_ = S3_ at HF HWF ⊢
  have hc_ := blen_any HWF.out w10_
  rw [HF.out] at hc_
  go_wp2_with fail
  refine hc_.mono ?_
  rintro e w11_ ⟨rfl, hb_⟩
  have HS2_ := Lib.hid (HS.out.below hb_ 1)
  clear HS
  have HS := HS2_
  clear HS2_
  clear hb_ hc_ HF HWF
  go_wp2_with fail
  refine (put_any HS.out HG.out (by omega) 9 1).mono ?_
  rintro e w12_ ⟨rfl, hN_⟩
  obtain ⟨M4_, hM4_⟩ : ∃ m, putI b.abs 9 1 M3_ = m := ⟨_, rfl⟩
  rw [hM4_] at hN_
  have HS2_ := Lib.hid (hN_.1.mono (n := 340) (by omega))
  have HG2_ := Lib.hid (show IGood b.abs M4_ from hM4_ ▸ good_put HG.out 9 1)
  have HM4_ := Lib.hid hM4_
  clear hN_ HS HG hM4_
  have HS := HS2_
  have HG := HG2_
  clear HS2_ HG2_
  go_wp2_with fail
  refine (having_any HS.out 4 0 (wf_lit (by decide))).mono ?_
  rintro e w13_ ⟨rfl, hb_⟩
  have HF := Lib.hid (show (lst (havingI 4 0 M4_)).length = 0 from by rw [← HM4_.out, ← HM3_.out, ← HM2_.out, ← HM1_.out, ← HM0_.out, HA.out]; kernel_rfl)
  have HWF := Lib.hid (show wfB (havingI 4 0 M4_) from wf_having HG.out 4 0)
  have HS2_ := Lib.hid (HS.out.below hb_ 1)
  clear HS
  have HS := HS2_
  clear HS2_
  clear hb_
  generalize havingI 4 0 M4_ = S4_ at HF HWF ⊢
  have hc_ := blen_any HWF.out w13_
  rw [HF.out] at hc_
  go_wp2_with fail
  refine hc_.mono ?_
  rintro e w14_ ⟨rfl, hb_⟩
  have HS2_ := Lib.hid (HS.out.below hb_ 1)
  clear HS
  have HS := HS2_
  clear HS2_
  clear hb_ hc_ HF HWF
  go_wp2_with fail
  refine (take_any HS.out HG.out (by omega) 3).mono ?_
  rintro e w15_ ⟨rfl, hN_⟩
  obtain ⟨M5_, hM5_⟩ : ∃ m, takeI b.abs 3 M4_ = m := ⟨_, rfl⟩
  rw [hM5_] at hN_
  have HS2_ := Lib.hid (hN_.1.mono (n := 450) (by omega))
  have HG2_ := Lib.hid (show IGood b.abs M5_ from hM5_ ▸ good_take HG.out 3)
  have HM5_ := Lib.hid hM5_
  clear hN_ HS HG hM5_
  have HS := HS2_
  have HG := HG2_
  clear HS2_ HG2_
  go_wp2_with fail
  refine (having_any HS.out 3 2 (wf_lit (by decide))).mono ?_
  rintro e w16_ ⟨rfl, hb_⟩
  have HF := Lib.hid (show lst (havingI 3 2 M5_) = [9] from by rw [← HM5_.out, ← HM4_.out, ← HM3_.out, ← HM2_.out, ← HM1_.out, ← HM0_.out, HA.out]; kernel_rfl)
  have HWF := Lib.hid (show wfB (havingI 3 2 M5_) from wf_having HG.out 3 2)
  have HS2_ := Lib.hid (HS.out.below hb_ 1)
  clear HS
  have HS := HS2_
  clear HS2_
  clear hb_
  generalize havingI 3 2 M5_ = S5_ at HF HWF ⊢
  go_wp2_with fail
  refine (ball_any HWF.out _ (HTT.out.1.below HTT.out.2 HS.out.bel) (Nat.lt_of_lt_of_le HTT.out.2 HS.out.bel.size)).mono ?_
  rintro e w17_ ⟨v_, rfl, hI_, hb_⟩
  rw [HF.out] at hI_
  have HI := Lib.hid hI_
  have HS2_ := Lib.hid (HS.out.below hb_ 1)
  clear HS
  have HS := HS2_
  clear HS2_
  clear hb_ hI_ HF HWF
  go_wp2_with fail
  refine (ints_eq (w17_.heap.size + 1) _ _ (zl [9]) _ ((HI.out.below (fb_alloc (Below.refl _ _) _) (Nat.le_refl _)).mono (Nat.le_succ _)) (ints_lit w17_ (zl [9])) (by decide)).mono ?_
  rintro e w18_ ⟨rfl, hb_⟩
  have HS2_ := Lib.hid (HS.out.below (fb_call (fb_alloc (Below.refl _ _) _) hb_) 1)
  clear HS
  have HS := HS2_
  clear HS2_
  clear hb_ HI
  have hc_ := icard_any HS.out HG.out 3
  rw [show cardI 3 M5_ = -1 from by rw [← HM5_.out, ← HM4_.out, ← HM3_.out, ← HM2_.out, ← HM1_.out, ← HM0_.out, HA.out]; kernel_rfl] at hc_
  go_wp2_with fail
  refine hc_.mono ?_
  rintro e w19_ ⟨rfl, nd_, hb_⟩
  have hb2_ := hb_ ▸ fb_drewN (Below.refl _ _) nd_
  have HS2_ := Lib.hid (HS.out.below hb2_ 1)
  clear HS
  have HS := HS2_
  clear HS2_
  clear hb_ hb2_ hc_
  have hc_ := icard_any HS.out HG.out 9
  rw [show cardI 9 M5_ = 1 from by rw [← HM5_.out, ← HM4_.out, ← HM3_.out, ← HM2_.out, ← HM1_.out, ← HM0_.out, HA.out]; kernel_rfl] at hc_
  go_wp2_with fail
  refine hc_.mono ?_
  rintro e w20_ ⟨rfl, nd_, hb_⟩
  have hb2_ := hb_ ▸ fb_drewN (Below.refl _ _) nd_
  have HS2_ := Lib.hid (HS.out.below hb2_ 1)
  clear HS
  have HS := HS2_
  clear HS2_
  clear hb_ hb2_ hc_
  go_wp2_with fail
  refine (touch_any HS.out (by omega) 9).mono ?_
  rintro e w21_ ⟨rfl, hN_⟩
  obtain ⟨M6_, hM6_⟩ : ∃ m, touchI 9 M5_ = m := ⟨_, rfl⟩
  rw [hM6_] at hN_
  have HS2_ := Lib.hid (hN_.1.mono (n := 510) (by omega))
  have HG2_ := Lib.hid (show IGood b.abs M6_ from hM6_ ▸ good_touch HG.out 9)
  have HM6_ := Lib.hid hM6_
  clear hN_ HS HG hM6_
  have HS := HS2_
  have HG := HG2_
  clear HS2_ HG2_
  have hc_ := is_mark HS.out
  rw [HBT.out] at hc_
  go_wp2_with fail
  refine hc_.mono ?_
  rintro e w_ ⟨q_, x_, rfl, hM_, hS_, _, rfl⟩
  have HS2_ := Lib.hid hS_
  have HMK := Lib.hid hM_
  clear hM_ hS_ HS hc_
  have HS := HS2_
  clear HS2_
  have HGM := HG
  go_wp2_with fail
  refine (take_any HS.out HG.out (by omega) 9).mono ?_
  rintro e w22_ ⟨rfl, hN_⟩
  obtain ⟨M7_, hM7_⟩ : ∃ m, takeI b.abs 9 M6_ = m := ⟨_, rfl⟩
  rw [hM7_] at hN_
  have HS2_ := Lib.hid (hN_.1.mono (n := 620) (by omega))
  have HG2_ := Lib.hid (show IGood b.abs M7_ from hM7_ ▸ good_take HG.out 9)
  have HM7_ := Lib.hid hM7_
  clear hN_ HS HG hM7_
  have HS := HS2_
  have HG := HG2_
  clear HS2_ HG2_
  go_wp2_with fail
  refine (touched_yes HS.out).mono ?_
  rintro e w23_ ⟨rfl, hb_⟩
  have HF := Lib.hid (show (lst (M7_.Z 0)).length = 0 from by rw [← HM7_.out, ← HM6_.out, ← HM5_.out, ← HM4_.out, ← HM3_.out, ← HM2_.out, ← HM1_.out, ← HM0_.out, HA.out]; kernel_rfl)
  have HWF := Lib.hid (show wfB (M7_.Z 0) from HG.out.wf 0 (by omega))
  have HS2_ := Lib.hid (HS.out.below hb_ 1)
  clear HS
  have HS := HS2_
  clear HS2_
  clear hb_
  generalize M7_.Z 0 = S6_ at HF HWF ⊢
  have hc_ := blen_any HWF.out w23_
  rw [HF.out] at hc_
  go_wp2_with fail
  refine hc_.mono ?_
  rintro e w24_ ⟨rfl, hb_⟩
  have HS2_ := Lib.hid (HS.out.below hb_ 1)
  clear HS
  have HS := HS2_
  clear HS2_
  clear hb_ hc_ HF HWF
  have hc_ := is_back HS.out (by omega) HMK.out
  rw [HBT.out] at hc_
  go_wp2_with fail
  refine hc_.mono ?_
  rintro e w25_ ⟨rfl, hN_⟩
  have HS2_ := Lib.hid (hN_.1.mono (n := 630) (by omega))
  clear hN_ HS HG hc_
  have HS := HS2_
  have HG := HGM
  clear HS2_
  go_wp2_with fail
  refine (touched_yes HS.out).mono ?_
  rintro e w26_ ⟨rfl, hb_⟩
  have HF := Lib.hid (show lst (M6_.Z 0) = [9] from by rw [← HM6_.out, ← HM5_.out, ← HM4_.out, ← HM3_.out, ← HM2_.out, ← HM1_.out, ← HM0_.out, HA.out]; kernel_rfl)
  have HWF := Lib.hid (show wfB (M6_.Z 0) from HG.out.wf 0 (by omega))
  have HS2_ := Lib.hid (HS.out.below hb_ 1)
  clear HS
  have HS := HS2_
  clear HS2_
  clear hb_
  generalize M6_.Z 0 = S7_ at HF HWF ⊢
  go_wp2_with fail
  refine (ball_any HWF.out _ (HTT.out.1.below HTT.out.2 HS.out.bel) (Nat.lt_of_lt_of_le HTT.out.2 HS.out.bel.size)).mono ?_
  rintro e w27_ ⟨v_, rfl, hI_, hb_⟩
  rw [HF.out] at hI_
  have HI := Lib.hid hI_
  have HS2_ := Lib.hid (HS.out.below hb_ 1)
  clear HS
  have HS := HS2_
  clear HS2_
  clear hb_ hI_ HF HWF
  go_wp2_with fail
  refine (ints_eq (w27_.heap.size + 1) _ _ (zl [9]) _ ((HI.out.below (fb_alloc (Below.refl _ _) _) (Nat.le_refl _)).mono (Nat.le_succ _)) (ints_lit w27_ (zl [9])) (by decide)).mono ?_
  rintro e w28_ ⟨rfl, hb_⟩
  have HS2_ := Lib.hid (HS.out.below (fb_call (fb_alloc (Below.refl _ _) _) hb_) 1)
  clear HS
  have HS := HS2_
  clear HS2_
  clear hb_ HI
  have hc_ := icard_any HS.out HG.out 9
  rw [show cardI 9 M6_ = 1 from by rw [← HM6_.out, ← HM5_.out, ← HM4_.out, ← HM3_.out, ← HM2_.out, ← HM1_.out, ← HM0_.out, HA.out]; kernel_rfl] at hc_
  go_wp2_with fail
  refine hc_.mono ?_
  rintro e w29_ ⟨rfl, nd_, hb_⟩
  have hb2_ := hb_ ▸ fb_drewN (Below.refl _ _) nd_
  have HS2_ := Lib.hid (HS.out.below hb2_ 1)
  clear HS
  have HS := HS2_
  clear HS2_
  clear hb_ hb2_ hc_
  have HBEL := Lib.hid HS.out.bel
  go_wp2
  go_ret
  exact ⟨rfl, HBEL.out⟩
end
end Go.Proofs.YtcgadmeagbcbnaaDoor
