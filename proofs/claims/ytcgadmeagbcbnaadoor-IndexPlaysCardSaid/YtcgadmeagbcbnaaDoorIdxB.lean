/- An index's readers: none, place, Card, set, Having, Touched. No condition. -/
import Derived.Test.YtcgadmeagbcbnaaDoorIdxA
import Derived.Test.YtcgadmeagbcbnaaDoorQTail
import Derived.Test.YtcgadmeagbcbnaaDoorLatCh
namespace Go.Proofs.YtcgadmeagbcbnaaDoor
open Go.RowKit
attribute [local irreducible] Calls

section
variable {w0 w w1 w' : World} {col : Nat → Nat} {c k n : Nat} {b : IB} {q : List Int × List (Int × Int)} {m m' : IM}
theorem is_get' (h : IS w0 w col c b k q m) (i v : Int) (hv : ∀ cs, IHolds b.base cs m → getZ cs i = v) : Calls Tryd.prog 43 #[.pointer (some ⟨b.T, 0, none⟩), .int .i64 i] w fun e w' => e = .returned (.int .i64 v) ∧ w' = w :=
  (is_get h i v hv).mono fun _ _ h => ⟨h.1, h.2.symm⟩
theorem is_getD (h : IS w0 w col c b k q m) (i v : Int) (hv : ∀ cs, IHolds b.base cs m → getZ cs i = v) (n : Nat) : Calls Tryd.prog 43 #[.pointer (some ⟨b.T, 0, none⟩), .int .i64 i] (w.drewN n) fun e w' => e = .returned (.int .i64 v) ∧ w' = w.drewN n :=
  is_get' (h.below (fb_drewN (Below.refl _ _) n) 0) i v hv
theorem ix_none (h : IxF w b) : Calls Tryd.prog 35 #[.pointer (some ⟨b.X, 0, none⟩)] w fun e w' => e = .returned (.bool false) ∧ w = w' := by
  have c0 : w.cell? ⟨b.X, 0, none⟩ = some (.pointer (some ⟨b.T, 0, none⟩)) := h.x.cell 0
  clear h
  go_enter Tryd.func35, Tryd.ntmps35
  go_wp2
  go_ret
  exact ⟨rfl, rfl⟩
theorem ix_nil (w : World) : Calls Tryd.prog 35 #[.pointer none] w fun e w' => e = .returned (.bool true) ∧ w = w' := by
  go_enter Tryd.func35, Tryd.ntmps35
  go_wp2
  go_ret
  exact ⟨rfl, rfl⟩
theorem iplace_yes (i : Int) (w : World) (h0 : 0 ≤ i) (h1 : i < 256) : Calls Tryd.prog 36 #[.int .i64 i] w fun e w' => e = .returned (.bool true) ∧ w = w' := by
  go_enter Tryd.func36, Tryd.ntmps36
  go_wp2
  go_ret
  exact ⟨rfl, rfl⟩
theorem iplace_no (i : Int) (w : World) (h : i < 0 ∨ 256 ≤ i) : Calls Tryd.prog 36 #[.int .i64 i] w fun e w' => e = .returned (.bool false) ∧ w = w' := by
  by_cases h0 : i < 0
  · clear h
    go_enter Tryd.func36, Tryd.ntmps36
    go_wp2
    go_ret
    exact ⟨rfl, rfl⟩
  · have h1 : ¬ i < 256 := by omega
    have h2 : (0 : Int) ≤ i := by omega
    clear h h0
    go_enter Tryd.func36, Tryd.ntmps36
    go_wp2
    go_ret
    exact ⟨rfl, rfl⟩
theorem icard_nil (w : World) (i : Int) : Calls Tryd.prog 20 #[.pointer none, .int .i64 i] w fun e w' => e = .returned (.int .i64 (-1)) ∧ w = w' := by
  go_enter Tryd.func20, Tryd.ntmps20
  go_wp2_with (go_at_call 35; refine (ix_nil _).mono ?_; rintro e w' ⟨rfl, rfl⟩)
  go_ret
  exact ⟨rfl, rfl⟩
theorem icard_no (h : IxF w b) (i : Int) (hi : i < 0 ∨ 256 ≤ i) : Calls Tryd.prog 20 #[.pointer (some ⟨b.X, 0, none⟩), .int .i64 i] w fun e w' => e = .returned (.int .i64 (-1)) ∧ w = w' := by
  have H := Lib.hid h
  have HI := Lib.hid hi
  clear h hi
  go_enter Tryd.func20, Tryd.ntmps20
  go_wp2_with (first | (go_at_call 35; refine (ix_none H.out).mono ?_; rintro e w' ⟨rfl, rfl⟩) | (go_at_call 36; refine (iplace_no i _ HI.out).mono ?_; rintro e w' ⟨rfl, rfl⟩))
  go_ret
  exact ⟨rfl, rfl⟩
theorem icard_yes (h : IS w0 w col c b k q m) (i : Nat) (hi : i < 256) (hr : 0 ≤ m.H.getD i 0 ∧ m.H.getD i 0 ≤ 40) : Calls Tryd.prog 20 #[.pointer (some ⟨b.X, 0, none⟩), .int .i64 (i : Int)] w fun e w' => e = .returned (.int .i64 (m.H.getD i 0 - 1)) ∧ ∃ n, w.drewN n = w' := by
  have H := Lib.hid h
  have i0 : (0 : Int) ≤ i := by omega
  have i1 : (i : Int) < 256 := by omega
  have c0 : w.cell? ⟨b.X, 0, none⟩ = some (.pointer (some ⟨b.T, 0, none⟩)) := h.fo.x.cell 0
  have c2 : w.cell? ⟨b.X, 2, none⟩ = some (.int .i64 (b.base : Int)) := h.fo.x.cell 2
  obtain ⟨v, hv⟩ : ∃ v, m.H.getD i 0 = v := ⟨_, rfl⟩
  have hb := h.sm.base
  have HG := Lib.hid (is_getD h ((b.base : Int) + (i : Int)) v (fun cs hc => by rw [← Int.natCast_add]; exact (hc.heldZ hi).trans hv))
  rw [hv] at hr ⊢
  obtain ⟨hr0, hr1⟩ := hr
  have hw1 : IntKind.i64.wrap ((b.base : Int) + (i : Int)) = (b.base : Int) + (i : Int) := IntWalk.i64_in _ (by omega)
  have hw2 : IntKind.i64.wrap (v - 1) = v - 1 := IntWalk.i64_in _ (by omega)
  clear h hv hb hr0 hr1 hi
  generalize b.base = bs at c2 hw1 HG
  go_enter Tryd.func20, Tryd.ntmps20
  go_upto_region 3 with (first | (go_at_call 35; refine (ix_none H.out.fo).mono ?_; rintro e w' ⟨rfl, rfl⟩) | (go_at_call 36; refine (iplace_yes (i : Int) _ i0 i1).mono ?_; rintro e w' ⟨rfl, rfl⟩))
  go_quiet ((go_at_call 43; exact Calls.quiet_of_same (HG.out _)))
  go_wp2
  go_ret
  exact ⟨rfl, _, rfl⟩
/-- Words as cells. -/
def uc (S : List Nat) : List Value := S.map (fun n : Nat => Value.int .u64 (n : Int))
theorem uc_set (S : List Nat) (q x : Nat) : (uc S).set q (.int .u64 x) = uc (S.set q x) := by simp [uc, List.map_set]
theorem is_getB (h : IS w0 w col c b k q m) (a j : Nat) (s : Nat) (hs : s < 36) (hj : j < 4) (ha : b.base + 256 + 4 * s = a) {w1 : World} (hb : Below w.heap.size w w1) : Calls Tryd.prog 43 #[.pointer (some ⟨b.T, 0, none⟩), .int .i64 ((a : Int) + (j : Int))] w1 fun e w' => e = .returned (.int .i64 (sg ((m.Z s).getD j 0))) ∧ w1 = w' :=
  is_get (h.below hb 0) ((a : Int) + (j : Int)) _ (fun cs hc => by rw [← Int.natCast_add, ← ha]; exact hc.wordZ hs hj)
set_option maxHeartbeats 1000000 in
theorem iset_any (h : IS w0 w col c b k q m) (s a : Nat) (hs : s < 36) (ha : b.base + 256 + 4 * s = a) : Calls Tryd.prog 44 #[.pointer (some ⟨b.X, 0, none⟩), .int .i64 (a : Int)] w fun e w' => e = .returned (svL (m.Z s)) ∧ Below w.heap.size w w' := by
  have HG : Hid (∀ j : Nat, j < 4 → ∀ w1, Below w.heap.size w w1 → Calls Tryd.prog 43 #[.pointer (some ⟨b.T, 0, none⟩), .int .i64 ((a : Int) + (j : Int))] w1 fun e w' => e = .returned (.int .i64 (sg ((m.Z s).getD j 0))) ∧ w1 = w') := Lib.hid fun j hj w1 hb => is_getB h a j s hs hj ha hb
  have HX : Hid (∀ w1, Below w.heap.size w w1 → w1.cell? ⟨b.X, 0, none⟩ = some (.pointer (some ⟨b.T, 0, none⟩))) := Lib.hid fun w1 hb => (h.fo.below hb).x.cell 0
  obtain ⟨x0, x1, x2, x3, hZ, l0, l1, l2, l3⟩ := wf_form (h.wf hs)
  have hab : a ≤ 2000000 := by have := h.sm.base; omega
  have HL := Lib.hid (show ∀ j, j < 4 → [x0, x1, x2, x3].getD j 0 < 2 ^ 64 from fun j _ => (wf_mk l0 l1 l2 l3).2 j)
  have HL := Lib.hid (And.intro (wf_mk l0 l1 l2 l3) HL.out)
  rw [hZ] at HG ⊢
  have A0 := Lib.hid (Arr.new w 48 (uc (mix [0, 0, 0, 0] [x0, x1, x2, x3] 0)))
  have HB := Lib.hid (fb_alloc (Below.refl _ w) (.cells #[.int .u64 0, .int .u64 0, .int .u64 0, .int .u64 0] 48))
  clear h hZ l0 l1 l2 l3 hs ha
  show Calls Tryd.prog 44 _ w fun e w' => e = .returned (sv x0 x1 x2 x3) ∧ _
  unfold sv
  go_enter Tryd.func44, Tryd.ntmps44
  go_wp2
  go_loopw [6] (fun x wr => ∃ j : Nat, j ≤ 4 ∧ x = .int .i64 j ∧ Hid (Arr wr w.heap.size 48 (uc (mix [0, 0, 0, 0] [x0, x1, x2, x3] j)) ∧ Below w.heap.size w wr)) (fun x _ => 4 - (intOf x).toNat)
  case atStart => exact ⟨0, by omega, rfl, Lib.hid ⟨A0.out, HB.out⟩⟩
  case round =>
    obtain ⟨j, hj, rfl, hst⟩ := hrel
    clear A0 HB
    by_cases hlt : j < 4
    · have cx := HX.out _ hst.out.2
      have HC := Lib.hid (HG.out j hlt _ hst.out.2)
      have hsb := sg_back _ (HL.out.2 j hlt)
      obtain ⟨y, hy⟩ : ∃ y, sg ([x0, x1, x2, x3].getD j 0) = y := ⟨_, rfl⟩
      rw [hy] at HC hsb
      have j0 : (0 : Int) ≤ j := by omega
      have j4 : (j : Int) < 4 := by omega
      clear hy
      obtain ⟨B, hB⟩ : ∃ B, w.heap.size = B := ⟨_, rfl⟩
      rw [hB] at hst ⊢
      have hm := mix_succ wf_zero (HL.out.1) hlt
      have hcj : wr.cell? ⟨B, j, none⟩ = some (.int .u64 0) := by
        rw [hst.out.1.cell]
        have h1 := mix_at wf_zero (HL.out.1) hlt
        have h2 := (wf_mix wf_zero (HL.out.1) hj).1
        simp only [uc, List.getElem?_map]
        rw [List.getElem?_eq_getElem (by omega)]
        rw [List.getD_eq_getElem?_getD, List.getElem?_eq_getElem (by omega)] at h1
        simp only [Option.getD_some] at h1
        have h3 : ([0, 0, 0, 0] : List Nat).getD j 0 = 0 := by match j, hlt with | 0, _ => rfl | 1, _ => rfl | 2, _ => rfl | 3, _ => rfl
        rw [h1, h3]
        rfl
      have hfj := hst.out.1.frozen j
      have HN : Hid (Arr (wr.setCell ⟨B, j, none⟩ (.int .u64 ([x0, x1, x2, x3].getD j 0 : Nat))) B 48 (uc (mix [0, 0, 0, 0] [x0, x1, x2, x3] (j + 1))) ∧ Below B w (wr.setCell ⟨B, j, none⟩ (.int .u64 ([x0, x1, x2, x3].getD j 0 : Nat)))) := by
        refine Lib.hid ⟨?_, hst.out.2.setCell (Nat.le_refl _) _⟩
        rw [hm, ← uc_set]
        exact hst.out.1.set j _
      clear hm hst HG HX HL
      generalize [x0, x1, x2, x3].getD j 0 = xj at hsb HN
      go_wp2_with (go_at_call 43; refine HC.out.mono ?_; rintro e w' ⟨rfl, rfl⟩)
      go_roundw
      case rel => exact ⟨j + 1, by omega, by go_num, HN⟩
      case measure => simp [intOf]; omega
    · obtain rfl : j = 4 := by omega
      obtain ⟨B, hB⟩ : ∃ B, w.heap.size = B := ⟨_, rfl⟩
      rw [hB] at hst ⊢
      have c0 : wr.cell? ⟨B, 0, none⟩ = some (.int .u64 x0) := hst.out.1.cell 0
      have c1 : wr.cell? ⟨B, 1, none⟩ = some (.int .u64 x1) := hst.out.1.cell 1
      have c2 : wr.cell? ⟨B, 2, none⟩ = some (.int .u64 x2) := hst.out.1.cell 2
      have c3 : wr.cell? ⟨B, 3, none⟩ = some (.int .u64 x3) := hst.out.1.cell 3
      have f0 := hst.out.1.frozen 0
      have f1 := hst.out.1.frozen 1
      have f2 := hst.out.1.frozen 2
      have f3 := hst.out.1.frozen 3
      go_wp2
      refine bodyPost_ret (by simp [results, Tryd.results44, go_sem, c0, c1, c2, c3]) rfl ⟨rfl, ?_⟩
      rw [hB]
      exact (((hst.out.2.setCell (p := ⟨B, 0, none⟩) (Nat.le_refl _) _).setCell (p := ⟨B, 1, none⟩) (Nat.le_refl _) _).setCell (p := ⟨B, 2, none⟩) (Nat.le_refl _) _).setCell (p := ⟨B, 3, none⟩) (Nat.le_refl _) _
theorem IxF.lookYes (h : IxF w b) {k e : Int} (hk : wf2 k e) (hx : kx k e ≠ 0) : (Instr.lookup 82 (.map (some b.M)) (.agg #[.int .i64 k, .int .i64 e]) true).run Tryd.prog w = .ok (.tuple #[.int .i64 ((b.base + 256 + 4 * kx k e : Nat) : Int), .bool true]) w := by
  have := h.m.look hk
  rw [show mapF b.base k e = some ((b.base + 256 + 4 * kx k e : Nat) : Int) from if_neg hx] at this
  exact this
theorem IxF.lookNo (h : IxF w b) {k e : Int} (hk : wf2 k e) (hx : kx k e = 0) : (Instr.lookup 82 (.map (some b.M)) (.agg #[.int .i64 k, .int .i64 e]) true).run Tryd.prog w = .ok (.tuple #[.int .i64 0, .bool false]) w := by
  have := h.m.look hk
  rw [show mapF b.base k e = none from if_pos hx] at this
  exact this
theorem having_nil (w : World) (kd e : Int) : Calls Tryd.prog 26 #[.pointer none, .int .i64 kd, .int .i64 e] w fun e w' => e = .returned (svL [0, 0, 0, 0]) ∧ Below w.heap.size w w' := by
  go_enter Tryd.func26, Tryd.ntmps26
  go_wp2_with (go_at_call 35; refine (ix_nil _).mono ?_; rintro e w' ⟨rfl, rfl⟩)
  exact bodyPost_ret (by simp [results, Tryd.results26, go_sem, svL, sv]) rfl ⟨rfl, fb_alloc (Below.refl _ w) _⟩
theorem having_no (h : IS w0 w col c b k q m) (kd e : Int) (hw : wf2 kd e) (hx : kx kd e = 0) : Calls Tryd.prog 26 #[.pointer (some ⟨b.X, 0, none⟩), .int .i64 kd, .int .i64 e] w fun e w' => e = .returned (svL [0, 0, 0, 0]) ∧ Below w.heap.size w w' := by
  have hb := fb_alloc (Below.refl _ w) (.cells #[.int .u64 0, .int .u64 0, .int .u64 0, .int .u64 0] 48)
  have hf := h.fo.below hb
  have c3 : (w.alloc (.cells #[.int .u64 0, .int .u64 0, .int .u64 0, .int .u64 0] 48)).cell? ⟨b.X, 3, none⟩ = some (.map (some b.M)) := hf.x.cell 3
  have hl := hf.lookNo hw hx
  have HF := Lib.hid hf
  have HB := Lib.hid hb
  clear h hb hf hw hx
  go_enter Tryd.func26, Tryd.ntmps26
  go_wp2_with (go_at_call 35; refine (ix_none HF.out).mono ?_; rintro e w' ⟨rfl, rfl⟩)
  exact bodyPost_ret (by simp [results, Tryd.results26, go_sem, svL, sv]) rfl ⟨rfl, HB.out⟩
theorem having_yes (h : IS w0 w col c b k q m) (kd e : Int) (hw : wf2 kd e) (hx : kx kd e ≠ 0) : Calls Tryd.prog 26 #[.pointer (some ⟨b.X, 0, none⟩), .int .i64 kd, .int .i64 e] w fun e' w' => e' = .returned (svL (m.Z (kx kd e))) ∧ Below w.heap.size w w' := by
  have hb := fb_alloc (Below.refl _ w) (.cells #[.int .u64 0, .int .u64 0, .int .u64 0, .int .u64 0] 48)
  have hI := h.below hb 0
  have hf := h.fo.below hb
  have c3 : (w.alloc (.cells #[.int .u64 0, .int .u64 0, .int .u64 0, .int .u64 0] 48)).cell? ⟨b.X, 3, none⟩ = some (.map (some b.M)) := hf.x.cell 3
  have hl := hf.lookYes hw hx
  obtain ⟨a, ha⟩ : ∃ a, b.base + 256 + 4 * kx kd e = a := ⟨_, rfl⟩
  rw [ha] at hl
  have HC := Lib.hid (iset_any hI (kx kd e) a (kx_lt _ _) ha)
  have HF := Lib.hid hf
  have HB := Lib.hid hb
  obtain ⟨x0, x1, x2, x3, hZ, l0, l1, l2, l3⟩ := wf_form (h.wf (kx_lt kd e))
  rw [hZ] at HC ⊢
  rw [show svL [x0, x1, x2, x3] = .agg #[.int .u64 x0, .int .u64 x1, .int .u64 x2, .int .u64 x3] from rfl] at HC ⊢
  clear h hb hf hw hx hI ha hZ l0 l1 l2 l3
  go_enter Tryd.func26, Tryd.ntmps26
  go_upto_region 6 with (go_at_call 35; refine (ix_none HF.out).mono ?_; rintro e w' ⟨rfl, rfl⟩)
  go_wp2_with fail
  refine HC.out.mono ?_
  rintro e w1 ⟨rfl, hb1⟩
  have c0 : w1.cell? ⟨w.heap.size, 0, none⟩ = some (.int .u64 0) := (hb1.cell (p := ⟨_, 0, none⟩) (by simp)).trans (by go_simp)
  have c1 : w1.cell? ⟨w.heap.size, 1, none⟩ = some (.int .u64 0) := (hb1.cell (p := ⟨_, 1, none⟩) (by simp)).trans (by go_simp)
  have c2 : w1.cell? ⟨w.heap.size, 2, none⟩ = some (.int .u64 0) := (hb1.cell (p := ⟨_, 2, none⟩) (by simp)).trans (by go_simp)
  have c3 : w1.cell? ⟨w.heap.size, 3, none⟩ = some (.int .u64 0) := (hb1.cell (p := ⟨_, 3, none⟩) (by simp)).trans (by go_simp)
  have f0 : w1.frozen? ⟨w.heap.size, 0, none⟩ = false := (hb1.frozen (p := ⟨_, 0, none⟩) (by simp)).trans (by go_simp)
  have f1 : w1.frozen? ⟨w.heap.size, 1, none⟩ = false := (hb1.frozen (p := ⟨_, 1, none⟩) (by simp)).trans (by go_simp)
  have f2 : w1.frozen? ⟨w.heap.size, 2, none⟩ = false := (hb1.frozen (p := ⟨_, 2, none⟩) (by simp)).trans (by go_simp)
  have f3 : w1.frozen? ⟨w.heap.size, 3, none⟩ = false := (hb1.frozen (p := ⟨_, 3, none⟩) (by simp)).trans (by go_simp)
  have HB1 := Lib.hid (fb_call HB.out hb1)
  clear hb1 HC HB HF
  go_wp2
  exact bodyPost_ret (by simp [results, Tryd.results26, go_sem, c0, c1, c2, c3]) rfl ⟨rfl, (((HB1.out.setCell (Nat.le_refl _) _).setCell (Nat.le_refl _) _).setCell (Nat.le_refl _) _).setCell (Nat.le_refl _) _⟩
theorem touched_nil (w : World) : Calls Tryd.prog 23 #[.pointer none] w fun e w' => e = .returned (svL [0, 0, 0, 0]) ∧ Below w.heap.size w w' := by
  go_enter Tryd.func23, Tryd.ntmps23
  go_wp2_with (go_at_call 35; refine (ix_nil _).mono ?_; rintro e w' ⟨rfl, rfl⟩)
  exact bodyPost_ret (by simp [results, Tryd.results23, go_sem, svL, sv]) rfl ⟨rfl, fb_alloc (Below.refl _ w) _⟩
theorem touched_yes (h : IS w0 w col c b k q m) : Calls Tryd.prog 23 #[.pointer (some ⟨b.X, 0, none⟩)] w fun e' w' => e' = .returned (svL (m.Z 0)) ∧ Below w.heap.size w w' := by
  have hb := fb_alloc (Below.refl _ w) (.cells #[.int .u64 0, .int .u64 0, .int .u64 0, .int .u64 0] 48)
  have hI := h.below hb 0
  have hf := h.fo.below hb
  have c4 : (w.alloc (.cells #[.int .u64 0, .int .u64 0, .int .u64 0, .int .u64 0] 48)).cell? ⟨b.X, 4, none⟩ = some (.int .i64 ((b.base + 256 : Nat) : Int)) := hf.x.cell 4
  obtain ⟨a, ha⟩ : ∃ a, b.base + 256 + 4 * 0 = a := ⟨_, rfl⟩
  rw [show b.base + 256 = a by omega] at c4
  have HC := Lib.hid (iset_any hI 0 a (by decide) ha)
  have HF := Lib.hid hf
  have HB := Lib.hid hb
  obtain ⟨x0, x1, x2, x3, hZ, l0, l1, l2, l3⟩ := wf_form (h.wf (show 0 < 36 by decide))
  rw [hZ] at HC ⊢
  rw [show svL [x0, x1, x2, x3] = .agg #[.int .u64 x0, .int .u64 x1, .int .u64 x2, .int .u64 x3] from rfl] at HC ⊢
  clear h hb hf hI ha hZ l0 l1 l2 l3
  go_enter Tryd.func23, Tryd.ntmps23
  go_upto_region 3 with (go_at_call 35; refine (ix_none HF.out).mono ?_; rintro e w' ⟨rfl, rfl⟩)
  go_wp2_with fail
  refine HC.out.mono ?_
  rintro e w1 ⟨rfl, hb1⟩
  have c0 : w1.cell? ⟨w.heap.size, 0, none⟩ = some (.int .u64 0) := (hb1.cell (p := ⟨_, 0, none⟩) (by simp)).trans (by go_simp)
  have c1 : w1.cell? ⟨w.heap.size, 1, none⟩ = some (.int .u64 0) := (hb1.cell (p := ⟨_, 1, none⟩) (by simp)).trans (by go_simp)
  have c2 : w1.cell? ⟨w.heap.size, 2, none⟩ = some (.int .u64 0) := (hb1.cell (p := ⟨_, 2, none⟩) (by simp)).trans (by go_simp)
  have c3 : w1.cell? ⟨w.heap.size, 3, none⟩ = some (.int .u64 0) := (hb1.cell (p := ⟨_, 3, none⟩) (by simp)).trans (by go_simp)
  have f0 : w1.frozen? ⟨w.heap.size, 0, none⟩ = false := (hb1.frozen (p := ⟨_, 0, none⟩) (by simp)).trans (by go_simp)
  have f1 : w1.frozen? ⟨w.heap.size, 1, none⟩ = false := (hb1.frozen (p := ⟨_, 1, none⟩) (by simp)).trans (by go_simp)
  have f2 : w1.frozen? ⟨w.heap.size, 2, none⟩ = false := (hb1.frozen (p := ⟨_, 2, none⟩) (by simp)).trans (by go_simp)
  have f3 : w1.frozen? ⟨w.heap.size, 3, none⟩ = false := (hb1.frozen (p := ⟨_, 3, none⟩) (by simp)).trans (by go_simp)
  have HB1 := Lib.hid (fb_call HB.out hb1)
  clear hb1 HC HB HF
  go_wp2
  exact bodyPost_ret (by simp [results, Tryd.results23, go_sem, c0, c1, c2, c3]) rfl ⟨rfl, (((HB1.out.setCell (Nat.le_refl _) _).setCell (Nat.le_refl _) _).setCell (Nat.le_refl _) _).setCell (Nat.le_refl _) _⟩
end
end Go.Proofs.YtcgadmeagbcbnaaDoor
