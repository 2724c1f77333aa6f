/- An index's change of a set, by each of its four closures. No condition. -/
import Derived.Test.YtcgadmeagbcbnaaDoorIdxB
namespace Go.Proofs.YtcgadmeagbcbnaaDoor
open Go.RowKit
attribute [local irreducible] Calls

theorem ix_set0 (a b c d : Nat) (w : World) : (Instr.index 48 (.agg #[.int .u64 a, .int .u64 b, .int .u64 c, .int .u64 d]) (.int .i64 0)).run Tryd.prog w = .ok (.int .u64 (a : Int)) w := by kernel_rfl
theorem ix_set1 (a b c d : Nat) (w : World) : (Instr.index 48 (.agg #[.int .u64 a, .int .u64 b, .int .u64 c, .int .u64 d]) (.int .i64 1)).run Tryd.prog w = .ok (.int .u64 (b : Int)) w := by kernel_rfl
theorem ix_set2 (a b c d : Nat) (w : World) : (Instr.index 48 (.agg #[.int .u64 a, .int .u64 b, .int .u64 c, .int .u64 d]) (.int .i64 2)).run Tryd.prog w = .ok (.int .u64 (c : Int)) w := by kernel_rfl
theorem ix_set3 (a b c d : Nat) (w : World) : (Instr.index 48 (.agg #[.int .u64 a, .int .u64 b, .int .u64 c, .int .u64 d]) (.int .i64 3)).run Tryd.prog w = .ok (.int .u64 (d : Int)) w := by kernel_rfl
theorem ix_set (a b c d j : Nat) (hj : j < 4) (w : World) : (Instr.index 48 (.agg #[.int .u64 a, .int .u64 b, .int .u64 c, .int .u64 d]) (.int .i64 (j : Int))).run Tryd.prog w = .ok (.int .u64 (([a, b, c, d].getD j 0 : Nat) : Int)) w := by
  match j, hj with
  | 0, _ => exact ix_set0 a b c d w
  | 1, _ => exact ix_set1 a b c d w
  | 2, _ => exact ix_set2 a b c d w
  | 3, _ => exact ix_set3 a b c d w
section
variable {w0 w w1 w' : World} {col : Nat → Nat} {c k n : Nat} {b : IB} {q : List Int × List (Int × Int)} {m m' : IM}
theorem cl_touch {S : List Nat} (hS : wfB S) (Bi : Nat) (i : Int) (hc : w.cell? ⟨Bi, 0, none⟩ = some (.int .i64 i)) : Calls Tryd.prog 40 #[svL S, .pointer (some ⟨Bi, 0, none⟩)] w fun e w' => e = .returned (svL (addI S i)) ∧ Below w.heap.size w w' := by
  have hlt := World.block_lt_of_cell? _ _ hc
  have n1 : ∀ x0 x1 x2 x3 : Nat, ((w.alloc (.cells #[.int .u64 x0, .int .u64 x1, .int .u64 x2, .int .u64 x3] 48)).alloc (.cells #[.int .u64 0, .int .u64 0, .int .u64 0, .int .u64 0] 48)).cell? ⟨Bi, 0, none⟩ = some (.int .i64 i) := fun x0 x1 x2 x3 => ((fb_alloc (fb_alloc (Below.refl _ w) _) _).cell (p := ⟨Bi, 0, none⟩) hlt).trans hc
  have HC : Hid (∀ W : World, Calls Tryd.prog 30 #[svL S, .int .i64 i] W fun e w' => e = .returned (svL (addI S i)) ∧ Below W.heap.size W w') := Lib.hid fun W => badd_any hS i W
  obtain ⟨x0, x1, x2, x3, hZ, _⟩ := wf_form hS
  obtain ⟨y0, y1, y2, y3, hY, _⟩ := wf_form (wf_addI hS i)
  rw [hZ] at HC hY ⊢
  rw [hY] at HC ⊢
  rw [show svL [x0, x1, x2, x3] = .agg #[.int .u64 x0, .int .u64 x1, .int .u64 x2, .int .u64 x3] from rfl, show svL [y0, y1, y2, y3] = .agg #[.int .u64 y0, .int .u64 y1, .int .u64 y2, .int .u64 y3] from rfl] at HC ⊢
  have n2 := n1 x0 x1 x2 x3
  clear hS hZ hY hlt n1 hc
  go_enter Tryd.func40, Tryd.ntmps40
  go_wp2_with fail
  refine (HC.out _).mono ?_
  rintro e w1 ⟨rfl, hb1⟩
  have c0 : w1.cell? ⟨w.heap.size + 1, 0, none⟩ = some (.int .u64 0) := (hb1.cell (p := ⟨_, 0, none⟩) (by simp)).trans (by go_simp)
  have c1 : w1.cell? ⟨w.heap.size + 1, 1, none⟩ = some (.int .u64 0) := (hb1.cell (p := ⟨_, 1, none⟩) (by simp)).trans (by go_simp)
  have c2 : w1.cell? ⟨w.heap.size + 1, 2, none⟩ = some (.int .u64 0) := (hb1.cell (p := ⟨_, 2, none⟩) (by simp)).trans (by go_simp)
  have c3 : w1.cell? ⟨w.heap.size + 1, 3, none⟩ = some (.int .u64 0) := (hb1.cell (p := ⟨_, 3, none⟩) (by simp)).trans (by go_simp)
  have f0 : w1.frozen? ⟨w.heap.size + 1, 0, none⟩ = false := (hb1.frozen (p := ⟨_, 0, none⟩) (by simp)).trans (by go_simp)
  have f1 : w1.frozen? ⟨w.heap.size + 1, 1, none⟩ = false := (hb1.frozen (p := ⟨_, 1, none⟩) (by simp)).trans (by go_simp)
  have f2 : w1.frozen? ⟨w.heap.size + 1, 2, none⟩ = false := (hb1.frozen (p := ⟨_, 2, none⟩) (by simp)).trans (by go_simp)
  have f3 : w1.frozen? ⟨w.heap.size + 1, 3, none⟩ = false := (hb1.frozen (p := ⟨_, 3, none⟩) (by simp)).trans (by go_simp)
  have HB1 := Lib.hid (fb_call (fb_alloc (fb_alloc (Below.refl _ w) _) _) hb1)
  clear hb1 HC n2
  go_wp2
  exact bodyPost_ret (by simp [results, Tryd.results40, go_sem, c0, c1, c2, c3]) rfl ⟨rfl, (((HB1.out.setCell (Nat.le_succ _) _).setCell (Nat.le_succ _) _).setCell (Nat.le_succ _) _).setCell (Nat.le_succ _) _⟩
set_option maxHeartbeats 1000000 in
theorem change_touch (h : IS w0 w col c b k q m) (hk : k ≤ 900000000) (s a : Nat) (hs : s < 36) (ha : b.base + 256 + 4 * s = a) (Bi : Nat) (i : Int) (hc : w.cell? ⟨Bi, 0, none⟩ = some (.int .i64 i)) :
    Calls Tryd.prog 39 #[.pointer (some ⟨b.X, 0, none⟩), .int .i64 (a : Int), .func (.func 40) #[] #[.pointer (some ⟨Bi, 0, none⟩)]] w fun e w' => e = .returned (.tuple #[]) ∧ ISN w0 w w' col c b (k + 4) q ⟨m.H, upd m.Z s (addI (m.Z s) i)⟩ := by
  have hlt := World.block_lt_of_cell? _ _ hc
  have hwf := h.wf hs
  have hwf' := wf_addI hwf i
  have HS := Lib.hid (iset_any h s a hs ha)
  have HF : Hid (∀ W, Below w.heap.size w W → Calls Tryd.prog 40 #[svL (m.Z s), .pointer (some ⟨Bi, 0, none⟩)] W fun e w' => e = .returned (svL (addI (m.Z s) i)) ∧ Below W.heap.size W w') := Lib.hid fun W hb => cl_touch hwf Bi i ((hb.cell (p := ⟨Bi, 0, none⟩) hlt).trans hc)
  have H := Lib.hid h
  have hab : a ≤ 2000000 := by have := h.sm.base; omega
  have HA := Lib.hid ha
  have HWF := Lib.hid (And.intro hwf hwf')
  obtain ⟨x0, x1, x2, x3, hZ, _⟩ := wf_form hwf
  obtain ⟨y0, y1, y2, y3, hY, l0, l1, l2, l3⟩ := wf_form hwf'
  have HE := Lib.hid hY
  have HL := Lib.hid (show ∀ j, [y0, y1, y2, y3].getD j 0 < 2 ^ 64 from (wf_mk l0 l1 l2 l3).2)
  rw [hY, hZ] at HF
  rw [hZ] at HS
  rw [show svL [x0, x1, x2, x3] = .agg #[.int .u64 x0, .int .u64 x1, .int .u64 x2, .int .u64 x3] from rfl] at HS HF
  rw [show svL [y0, y1, y2, y3] = .agg #[.int .u64 y0, .int .u64 y1, .int .u64 y2, .int .u64 y3] from rfl] at HF
  clear h hwf hwf' ha hZ hY l0 l1 l2 l3 hlt hc
  go_enter Tryd.func39, Tryd.ntmps39
  go_wp2_with fail
  refine HS.out.mono ?_
  rintro e w1 ⟨rfl, hb1⟩
  have HB1 := Lib.hid hb1
  clear hb1 HS
  go_wp2_with fail
  refine (HF.out _ HB1.out).mono ?_
  rintro e w2 ⟨rfl, hb2⟩
  have HN := Lib.hid (ISN.same H.out (fb_call HB1.out hb2))
  clear hb2 HF HB1
  go_wp2
  go_loopw [13] (fun x wr => ∃ j : Nat, j ≤ 4 ∧ x = .int .i64 j ∧ Hid (ISN w0 w wr col c b (k + j) q ⟨m.H, upd m.Z s (mix (m.Z s) (addI (m.Z s) i) j)⟩)) (fun x _ => 4 - (intOf x).toNat)
  case atStart => exact ⟨0, by omega, rfl, Lib.hid (by rw [mix_zero, upd_same]; exact HN.out)⟩
  case round =>
    obtain ⟨j, hj, rfl, hst⟩ := hrel
    clear HN
    by_cases hlt : j < 4
    · have j0 : (0 : Int) ≤ j := by omega
      have j4 : (j : Int) < 4 := by omega
      have hix := ix_set y0 y1 y2 y3 j hlt
      have cx : wr.cell? ⟨b.X, 0, none⟩ = some (.pointer (some ⟨b.T, 0, none⟩)) := hst.out.1.fo.x.cell 0
      have hz : (upd m.Z s (mix (m.Z s) (addI (m.Z s) i) j) s).getD j 0 = (m.Z s).getD j 0 := by rw [upd_at]; exact mix_at HWF.out.1 HWF.out.2 hlt
      have HG := Lib.hid (is_getB hst.out.1 a j s hs hlt HA.out (Below.refl _ _))
      rw [hz] at HG
      have hx := HL.out j
      have hyj : (addI (m.Z s) i).getD j 0 = [y0, y1, y2, y3].getD j 0 := by rw [HE.out]
      obtain ⟨y, hy⟩ : ∃ y, [y0, y1, y2, y3].getD j 0 = y := ⟨_, rfl⟩
      rw [hy] at hix hx hyj
      obtain ⟨u, hu⟩ : ∃ u, sg y = u := ⟨_, rfl⟩
      have hu' : IntKind.i64.wrap (y : Int) = u := hu
      have hms := mix_succ HWF.out.1 HWF.out.2 hlt
      rw [hyj] at hms
      have HT : Hid (∀ w3 : World, ISN w0 wr w3 (recol w.heap.size col c) c b (k + j + 1) q ⟨m.H, upd (upd m.Z s (mix (m.Z s) (addI (m.Z s) i) j)) s ((upd m.Z s (mix (m.Z s) (addI (m.Z s) i) j) s).set j y)⟩ → Hid (ISN w0 w w3 col c b (k + (j + 1)) q ⟨m.H, upd m.Z s (mix (m.Z s) (addI (m.Z s) i) (j + 1))⟩)) := Lib.hid fun w3 h3 => by
        rw [upd_upd, upd_at, ← hms] at h3
        exact Lib.hid (hst.out.trans h3)
      by_cases he : (m.Z s).getD j 0 = y
      · have hb : (u != u) = false := by simp
        rw [he, hu] at HG
        have HT2 := HT.out _ (ISN.same hst.out.1 (Below.refl _ _) |>.mono (Nat.le_succ _) |> fun h => by rw [show (upd m.Z s (mix (m.Z s) (addI (m.Z s) i) j) s).set j y = upd m.Z s (mix (m.Z s) (addI (m.Z s) i) j) s from by rw [← he, ← hz]; exact set_same_at (by rw [upd_at]; exact wf_mix HWF.out.1 HWF.out.2 hj) hlt, upd_same]; exact h)
        clear HT hst hz hyj hms hu hy he hx
        go_wp2_with (go_at_call 43; refine HG.out.mono ?_; rintro e w' ⟨rfl, rfl⟩)
        go_roundw
        case rel => exact ⟨j + 1, by omega, by go_num, HT2⟩
        case measure => simp [intOf]; omega
      · obtain ⟨v, hv⟩ : ∃ v, sg ((m.Z s).getD j 0) = v := ⟨_, rfl⟩
        rw [hv] at HG
        have hb : (u != v) = true := by
          rw [bne_iff_ne]
          exact fun e => he (sg_inj (HWF.out.1.2 j) hx (by rw [hv, hu, e]))
        have HP := Lib.hid (is_set (m' := ⟨m.H, upd (upd m.Z s (mix (m.Z s) (addI (m.Z s) i) j)) s ((upd m.Z s (mix (m.Z s) (addI (m.Z s) i) j) s).set j y)⟩) hst.out.1 (by omega) ((a : Int) + (j : Int)) u (by have := HA.out; omega) (fun cs hcs => by rw [← Int.natCast_add, ← HA.out, ← hu]; exact hcs.setWord hs hlt y hx))
        clear hst hz hyj hms hu hy he hv hx
        go_wp2_with (first | (go_at_call 43; refine HG.out.mono ?_; rintro e w' ⟨rfl, rfl⟩) | (go_at_call 52; refine HP.out.mono ?_; rintro e w3 ⟨rfl, h3⟩; have H3 := HT.out _ h3; clear h3))
        go_roundw
        case rel => exact ⟨j + 1, by omega, by go_num, H3⟩
        case measure => simp [intOf]; omega
    · obtain rfl : j = 4 := by omega
      have HF2 := Lib.hid (show ISN w0 w wr col c b (k + 4) q ⟨m.H, upd m.Z s (addI (m.Z s) i)⟩ from by have := hst.out; rw [mix_four HWF.out.1 HWF.out.2] at this; exact this)
      clear hst
      go_wp2
      go_end0
      exact ⟨rfl, HF2.out⟩
theorem cl_clear {S : List Nat} (hS : wfB S) (Bi : Nat) (i : Int) (hc : w.cell? ⟨Bi, 0, none⟩ = some (.int .i64 i)) : Calls Tryd.prog 41 #[svL S, .pointer (some ⟨Bi, 0, none⟩)] w fun e w' => e = .returned (svL (delI S i)) ∧ Below w.heap.size w w' := by
  have hlt := World.block_lt_of_cell? _ _ hc
  have n1 : ∀ x0 x1 x2 x3 : Nat, ((w.alloc (.cells #[.int .u64 x0, .int .u64 x1, .int .u64 x2, .int .u64 x3] 48)).alloc (.cells #[.int .u64 0, .int .u64 0, .int .u64 0, .int .u64 0] 48)).cell? ⟨Bi, 0, none⟩ = some (.int .i64 i) := fun x0 x1 x2 x3 => ((fb_alloc (fb_alloc (Below.refl _ w) _) _).cell (p := ⟨Bi, 0, none⟩) hlt).trans hc
  have HC : Hid (∀ W : World, Calls Tryd.prog 32 #[svL S, .int .i64 i] W fun e w' => e = .returned (svL (delI S i)) ∧ Below W.heap.size W w') := Lib.hid fun W => bdel_any hS i W
  obtain ⟨x0, x1, x2, x3, hZ, _⟩ := wf_form hS
  obtain ⟨y0, y1, y2, y3, hY, _⟩ := wf_form (wf_delI hS i)
  rw [hZ] at HC hY ⊢
  rw [hY] at HC ⊢
  rw [show svL [x0, x1, x2, x3] = .agg #[.int .u64 x0, .int .u64 x1, .int .u64 x2, .int .u64 x3] from rfl, show svL [y0, y1, y2, y3] = .agg #[.int .u64 y0, .int .u64 y1, .int .u64 y2, .int .u64 y3] from rfl] at HC ⊢
  have n2 := n1 x0 x1 x2 x3
  clear hS hZ hY hlt n1 hc
  go_enter Tryd.func41, Tryd.ntmps41
  go_wp2_with fail
  refine (HC.out _).mono ?_
  rintro e w1 ⟨rfl, hb1⟩
  have c0 : w1.cell? ⟨w.heap.size + 1, 0, none⟩ = some (.int .u64 0) := (hb1.cell (p := ⟨_, 0, none⟩) (by simp)).trans (by go_simp)
  have c1 : w1.cell? ⟨w.heap.size + 1, 1, none⟩ = some (.int .u64 0) := (hb1.cell (p := ⟨_, 1, none⟩) (by simp)).trans (by go_simp)
  have c2 : w1.cell? ⟨w.heap.size + 1, 2, none⟩ = some (.int .u64 0) := (hb1.cell (p := ⟨_, 2, none⟩) (by simp)).trans (by go_simp)
  have c3 : w1.cell? ⟨w.heap.size + 1, 3, none⟩ = some (.int .u64 0) := (hb1.cell (p := ⟨_, 3, none⟩) (by simp)).trans (by go_simp)
  have f0 : w1.frozen? ⟨w.heap.size + 1, 0, none⟩ = false := (hb1.frozen (p := ⟨_, 0, none⟩) (by simp)).trans (by go_simp)
  have f1 : w1.frozen? ⟨w.heap.size + 1, 1, none⟩ = false := (hb1.frozen (p := ⟨_, 1, none⟩) (by simp)).trans (by go_simp)
  have f2 : w1.frozen? ⟨w.heap.size + 1, 2, none⟩ = false := (hb1.frozen (p := ⟨_, 2, none⟩) (by simp)).trans (by go_simp)
  have f3 : w1.frozen? ⟨w.heap.size + 1, 3, none⟩ = false := (hb1.frozen (p := ⟨_, 3, none⟩) (by simp)).trans (by go_simp)
  have HB1 := Lib.hid (fb_call (fb_alloc (fb_alloc (Below.refl _ w) _) _) hb1)
  clear hb1 HC n2
  go_wp2
  exact bodyPost_ret (by simp [results, Tryd.results41, go_sem, c0, c1, c2, c3]) rfl ⟨rfl, (((HB1.out.setCell (Nat.le_succ _) _).setCell (Nat.le_succ _) _).setCell (Nat.le_succ _) _).setCell (Nat.le_succ _) _⟩
set_option maxHeartbeats 1000000 in
theorem change_clear (h : IS w0 w col c b k q m) (hk : k ≤ 900000000) (s a : Nat) (hs : s < 36) (ha : b.base + 256 + 4 * s = a) (Bi : Nat) (i : Int) (hc : w.cell? ⟨Bi, 0, none⟩ = some (.int .i64 i)) :
    Calls Tryd.prog 39 #[.pointer (some ⟨b.X, 0, none⟩), .int .i64 (a : Int), .func (.func 41) #[] #[.pointer (some ⟨Bi, 0, none⟩)]] w fun e w' => e = .returned (.tuple #[]) ∧ ISN w0 w w' col c b (k + 4) q ⟨m.H, upd m.Z s (delI (m.Z s) i)⟩ := by
  have hlt := World.block_lt_of_cell? _ _ hc
  have hwf := h.wf hs
  have hwf' := wf_delI hwf i
  have HS := Lib.hid (iset_any h s a hs ha)
  have HF : Hid (∀ W, Below w.heap.size w W → Calls Tryd.prog 41 #[svL (m.Z s), .pointer (some ⟨Bi, 0, none⟩)] W fun e w' => e = .returned (svL (delI (m.Z s) i)) ∧ Below W.heap.size W w') := Lib.hid fun W hb => cl_clear hwf Bi i ((hb.cell (p := ⟨Bi, 0, none⟩) hlt).trans hc)
  have H := Lib.hid h
  have hab : a ≤ 2000000 := by have := h.sm.base; omega
  have HA := Lib.hid ha
  have HWF := Lib.hid (And.intro hwf hwf')
  obtain ⟨x0, x1, x2, x3, hZ, _⟩ := wf_form hwf
  obtain ⟨y0, y1, y2, y3, hY, l0, l1, l2, l3⟩ := wf_form hwf'
  have HE := Lib.hid hY
  have HL := Lib.hid (show ∀ j, [y0, y1, y2, y3].getD j 0 < 2 ^ 64 from (wf_mk l0 l1 l2 l3).2)
  rw [hY, hZ] at HF
  rw [hZ] at HS
  rw [show svL [x0, x1, x2, x3] = .agg #[.int .u64 x0, .int .u64 x1, .int .u64 x2, .int .u64 x3] from rfl] at HS HF
  rw [show svL [y0, y1, y2, y3] = .agg #[.int .u64 y0, .int .u64 y1, .int .u64 y2, .int .u64 y3] from rfl] at HF
  clear h hwf hwf' ha hZ hY l0 l1 l2 l3 hlt hc
  go_enter Tryd.func39, Tryd.ntmps39
  go_wp2_with fail
  refine HS.out.mono ?_
  rintro e w1 ⟨rfl, hb1⟩
  have HB1 := Lib.hid hb1
  clear hb1 HS
  go_wp2_with fail
  refine (HF.out _ HB1.out).mono ?_
  rintro e w2 ⟨rfl, hb2⟩
  have HN := Lib.hid (ISN.same H.out (fb_call HB1.out hb2))
  clear hb2 HF HB1
  go_wp2
  go_loopw [13] (fun x wr => ∃ j : Nat, j ≤ 4 ∧ x = .int .i64 j ∧ Hid (ISN w0 w wr col c b (k + j) q ⟨m.H, upd m.Z s (mix (m.Z s) (delI (m.Z s) i) j)⟩)) (fun x _ => 4 - (intOf x).toNat)
  case atStart => exact ⟨0, by omega, rfl, Lib.hid (by rw [mix_zero, upd_same]; exact HN.out)⟩
  case round =>
    obtain ⟨j, hj, rfl, hst⟩ := hrel
    clear HN
    by_cases hlt : j < 4
    · have j0 : (0 : Int) ≤ j := by omega
      have j4 : (j : Int) < 4 := by omega
      have hix := ix_set y0 y1 y2 y3 j hlt
      have cx : wr.cell? ⟨b.X, 0, none⟩ = some (.pointer (some ⟨b.T, 0, none⟩)) := hst.out.1.fo.x.cell 0
      have hz : (upd m.Z s (mix (m.Z s) (delI (m.Z s) i) j) s).getD j 0 = (m.Z s).getD j 0 := by rw [upd_at]; exact mix_at HWF.out.1 HWF.out.2 hlt
      have HG := Lib.hid (is_getB hst.out.1 a j s hs hlt HA.out (Below.refl _ _))
      rw [hz] at HG
      have hx := HL.out j
      have hyj : (delI (m.Z s) i).getD j 0 = [y0, y1, y2, y3].getD j 0 := by rw [HE.out]
      obtain ⟨y, hy⟩ : ∃ y, [y0, y1, y2, y3].getD j 0 = y := ⟨_, rfl⟩
      rw [hy] at hix hx hyj
      obtain ⟨u, hu⟩ : ∃ u, sg y = u := ⟨_, rfl⟩
      have hu' : IntKind.i64.wrap (y : Int) = u := hu
      have hms := mix_succ HWF.out.1 HWF.out.2 hlt
      rw [hyj] at hms
      have HT : Hid (∀ w3 : World, ISN w0 wr w3 (recol w.heap.size col c) c b (k + j + 1) q ⟨m.H, upd (upd m.Z s (mix (m.Z s) (delI (m.Z s) i) j)) s ((upd m.Z s (mix (m.Z s) (delI (m.Z s) i) j) s).set j y)⟩ → Hid (ISN w0 w w3 col c b (k + (j + 1)) q ⟨m.H, upd m.Z s (mix (m.Z s) (delI (m.Z s) i) (j + 1))⟩)) := Lib.hid fun w3 h3 => by
        rw [upd_upd, upd_at, ← hms] at h3
        exact Lib.hid (hst.out.trans h3)
      by_cases he : (m.Z s).getD j 0 = y
      · have hb : (u != u) = false := by simp
        rw [he, hu] at HG
        have HT2 := HT.out _ (ISN.same hst.out.1 (Below.refl _ _) |>.mono (Nat.le_succ _) |> fun h => by rw [show (upd m.Z s (mix (m.Z s) (delI (m.Z s) i) j) s).set j y = upd m.Z s (mix (m.Z s) (delI (m.Z s) i) j) s from by rw [← he, ← hz]; exact set_same_at (by rw [upd_at]; exact wf_mix HWF.out.1 HWF.out.2 hj) hlt, upd_same]; exact h)
        clear HT hst hz hyj hms hu hy he hx
        go_wp2_with (go_at_call 43; refine HG.out.mono ?_; rintro e w' ⟨rfl, rfl⟩)
        go_roundw
        case rel => exact ⟨j + 1, by omega, by go_num, HT2⟩
        case measure => simp [intOf]; omega
      · obtain ⟨v, hv⟩ : ∃ v, sg ((m.Z s).getD j 0) = v := ⟨_, rfl⟩
        rw [hv] at HG
        have hb : (u != v) = true := by
          rw [bne_iff_ne]
          exact fun e => he (sg_inj (HWF.out.1.2 j) hx (by rw [hv, hu, e]))
        have HP := Lib.hid (is_set (m' := ⟨m.H, upd (upd m.Z s (mix (m.Z s) (delI (m.Z s) i) j)) s ((upd m.Z s (mix (m.Z s) (delI (m.Z s) i) j) s).set j y)⟩) hst.out.1 (by omega) ((a : Int) + (j : Int)) u (by have := HA.out; omega) (fun cs hcs => by rw [← Int.natCast_add, ← HA.out, ← hu]; exact hcs.setWord hs hlt y hx))
        clear hst hz hyj hms hu hy he hv hx
        go_wp2_with (first | (go_at_call 43; refine HG.out.mono ?_; rintro e w' ⟨rfl, rfl⟩) | (go_at_call 52; refine HP.out.mono ?_; rintro e w3 ⟨rfl, h3⟩; have H3 := HT.out _ h3; clear h3))
        go_roundw
        case rel => exact ⟨j + 1, by omega, by go_num, H3⟩
        case measure => simp [intOf]; omega
    · obtain rfl : j = 4 := by omega
      have HF2 := Lib.hid (show ISN w0 w wr col c b (k + 4) q ⟨m.H, upd m.Z s (delI (m.Z s) i)⟩ from by have := hst.out; rw [mix_four HWF.out.1 HWF.out.2] at this; exact this)
      clear hst
      go_wp2
      go_end0
      exact ⟨rfl, HF2.out⟩
theorem cl_drop {S : List Nat} (hS : wfB S) (Bi : Nat) (i : Int) (hc : w.cell? ⟨Bi, 0, none⟩ = some (.int .i64 i)) : Calls Tryd.prog 51 #[svL S, .pointer (some ⟨Bi, 0, none⟩)] w fun e w' => e = .returned (svL (delI S i)) ∧ Below w.heap.size w w' := by
  have hlt := World.block_lt_of_cell? _ _ hc
  have n1 : ∀ x0 x1 x2 x3 : Nat, ((w.alloc (.cells #[.int .u64 x0, .int .u64 x1, .int .u64 x2, .int .u64 x3] 48)).alloc (.cells #[.int .u64 0, .int .u64 0, .int .u64 0, .int .u64 0] 48)).cell? ⟨Bi, 0, none⟩ = some (.int .i64 i) := fun x0 x1 x2 x3 => ((fb_alloc (fb_alloc (Below.refl _ w) _) _).cell (p := ⟨Bi, 0, none⟩) hlt).trans hc
  have HC : Hid (∀ W : World, Calls Tryd.prog 32 #[svL S, .int .i64 i] W fun e w' => e = .returned (svL (delI S i)) ∧ Below W.heap.size W w') := Lib.hid fun W => bdel_any hS i W
  obtain ⟨x0, x1, x2, x3, hZ, _⟩ := wf_form hS
  obtain ⟨y0, y1, y2, y3, hY, _⟩ := wf_form (wf_delI hS i)
  rw [hZ] at HC hY ⊢
  rw [hY] at HC ⊢
  rw [show svL [x0, x1, x2, x3] = .agg #[.int .u64 x0, .int .u64 x1, .int .u64 x2, .int .u64 x3] from rfl, show svL [y0, y1, y2, y3] = .agg #[.int .u64 y0, .int .u64 y1, .int .u64 y2, .int .u64 y3] from rfl] at HC ⊢
  have n2 := n1 x0 x1 x2 x3
  clear hS hZ hY hlt n1 hc
  go_enter Tryd.func51, Tryd.ntmps51
  go_wp2_with fail
  refine (HC.out _).mono ?_
  rintro e w1 ⟨rfl, hb1⟩
  have c0 : w1.cell? ⟨w.heap.size + 1, 0, none⟩ = some (.int .u64 0) := (hb1.cell (p := ⟨_, 0, none⟩) (by simp)).trans (by go_simp)
  have c1 : w1.cell? ⟨w.heap.size + 1, 1, none⟩ = some (.int .u64 0) := (hb1.cell (p := ⟨_, 1, none⟩) (by simp)).trans (by go_simp)
  have c2 : w1.cell? ⟨w.heap.size + 1, 2, none⟩ = some (.int .u64 0) := (hb1.cell (p := ⟨_, 2, none⟩) (by simp)).trans (by go_simp)
  have c3 : w1.cell? ⟨w.heap.size + 1, 3, none⟩ = some (.int .u64 0) := (hb1.cell (p := ⟨_, 3, none⟩) (by simp)).trans (by go_simp)
  have f0 : w1.frozen? ⟨w.heap.size + 1, 0, none⟩ = false := (hb1.frozen (p := ⟨_, 0, none⟩) (by simp)).trans (by go_simp)
  have f1 : w1.frozen? ⟨w.heap.size + 1, 1, none⟩ = false := (hb1.frozen (p := ⟨_, 1, none⟩) (by simp)).trans (by go_simp)
  have f2 : w1.frozen? ⟨w.heap.size + 1, 2, none⟩ = false := (hb1.frozen (p := ⟨_, 2, none⟩) (by simp)).trans (by go_simp)
  have f3 : w1.frozen? ⟨w.heap.size + 1, 3, none⟩ = false := (hb1.frozen (p := ⟨_, 3, none⟩) (by simp)).trans (by go_simp)
  have HB1 := Lib.hid (fb_call (fb_alloc (fb_alloc (Below.refl _ w) _) _) hb1)
  clear hb1 HC n2
  go_wp2
  exact bodyPost_ret (by simp [results, Tryd.results51, go_sem, c0, c1, c2, c3]) rfl ⟨rfl, (((HB1.out.setCell (Nat.le_succ _) _).setCell (Nat.le_succ _) _).setCell (Nat.le_succ _) _).setCell (Nat.le_succ _) _⟩
set_option maxHeartbeats 1000000 in
theorem change_drop (h : IS w0 w col c b k q m) (hk : k ≤ 900000000) (s a : Nat) (hs : s < 36) (ha : b.base + 256 + 4 * s = a) (Bi : Nat) (i : Int) (hc : w.cell? ⟨Bi, 0, none⟩ = some (.int .i64 i)) :
    Calls Tryd.prog 39 #[.pointer (some ⟨b.X, 0, none⟩), .int .i64 (a : Int), .func (.func 51) #[] #[.pointer (some ⟨Bi, 0, none⟩)]] w fun e w' => e = .returned (.tuple #[]) ∧ ISN w0 w w' col c b (k + 4) q ⟨m.H, upd m.Z s (delI (m.Z s) i)⟩ := by
  have hlt := World.block_lt_of_cell? _ _ hc
  have hwf := h.wf hs
  have hwf' := wf_delI hwf i
  have HS := Lib.hid (iset_any h s a hs ha)
  have HF : Hid (∀ W, Below w.heap.size w W → Calls Tryd.prog 51 #[svL (m.Z s), .pointer (some ⟨Bi, 0, none⟩)] W fun e w' => e = .returned (svL (delI (m.Z s) i)) ∧ Below W.heap.size W w') := Lib.hid fun W hb => cl_drop hwf Bi i ((hb.cell (p := ⟨Bi, 0, none⟩) hlt).trans hc)
  have H := Lib.hid h
  have hab : a ≤ 2000000 := by have := h.sm.base; omega
  have HA := Lib.hid ha
  have HWF := Lib.hid (And.intro hwf hwf')
  obtain ⟨x0, x1, x2, x3, hZ, _⟩ := wf_form hwf
  obtain ⟨y0, y1, y2, y3, hY, l0, l1, l2, l3⟩ := wf_form hwf'
  have HE := Lib.hid hY
  have HL := Lib.hid (show ∀ j, [y0, y1, y2, y3].getD j 0 < 2 ^ 64 from (wf_mk l0 l1 l2 l3).2)
  rw [hY, hZ] at HF
  rw [hZ] at HS
  rw [show svL [x0, x1, x2, x3] = .agg #[.int .u64 x0, .int .u64 x1, .int .u64 x2, .int .u64 x3] from rfl] at HS HF
  rw [show svL [y0, y1, y2, y3] = .agg #[.int .u64 y0, .int .u64 y1, .int .u64 y2, .int .u64 y3] from rfl] at HF
  clear h hwf hwf' ha hZ hY l0 l1 l2 l3 hlt hc
  go_enter Tryd.func39, Tryd.ntmps39
  go_wp2_with fail
  refine HS.out.mono ?_
  rintro e w1 ⟨rfl, hb1⟩
  have HB1 := Lib.hid hb1
  clear hb1 HS
  go_wp2_with fail
  refine (HF.out _ HB1.out).mono ?_
  rintro e w2 ⟨rfl, hb2⟩
  have HN := Lib.hid (ISN.same H.out (fb_call HB1.out hb2))
  clear hb2 HF HB1
  go_wp2
  go_loopw [13] (fun x wr => ∃ j : Nat, j ≤ 4 ∧ x = .int .i64 j ∧ Hid (ISN w0 w wr col c b (k + j) q ⟨m.H, upd m.Z s (mix (m.Z s) (delI (m.Z s) i) j)⟩)) (fun x _ => 4 - (intOf x).toNat)
  case atStart => exact ⟨0, by omega, rfl, Lib.hid (by rw [mix_zero, upd_same]; exact HN.out)⟩
  case round =>
    obtain ⟨j, hj, rfl, hst⟩ := hrel
    clear HN
    by_cases hlt : j < 4
    · have j0 : (0 : Int) ≤ j := by omega
      have j4 : (j : Int) < 4 := by omega
      have hix := ix_set y0 y1 y2 y3 j hlt
      have cx : wr.cell? ⟨b.X, 0, none⟩ = some (.pointer (some ⟨b.T, 0, none⟩)) := hst.out.1.fo.x.cell 0
      have hz : (upd m.Z s (mix (m.Z s) (delI (m.Z s) i) j) s).getD j 0 = (m.Z s).getD j 0 := by rw [upd_at]; exact mix_at HWF.out.1 HWF.out.2 hlt
      have HG := Lib.hid (is_getB hst.out.1 a j s hs hlt HA.out (Below.refl _ _))
      rw [hz] at HG
      have hx := HL.out j
      have hyj : (delI (m.Z s) i).getD j 0 = [y0, y1, y2, y3].getD j 0 := by rw [HE.out]
      obtain ⟨y, hy⟩ : ∃ y, [y0, y1, y2, y3].getD j 0 = y := ⟨_, rfl⟩
      rw [hy] at hix hx hyj
      obtain ⟨u, hu⟩ : ∃ u, sg y = u := ⟨_, rfl⟩
      have hu' : IntKind.i64.wrap (y : Int) = u := hu
      have hms := mix_succ HWF.out.1 HWF.out.2 hlt
      rw [hyj] at hms
      have HT : Hid (∀ w3 : World, ISN w0 wr w3 (recol w.heap.size col c) c b (k + j + 1) q ⟨m.H, upd (upd m.Z s (mix (m.Z s) (delI (m.Z s) i) j)) s ((upd m.Z s (mix (m.Z s) (delI (m.Z s) i) j) s).set j y)⟩ → Hid (ISN w0 w w3 col c b (k + (j + 1)) q ⟨m.H, upd m.Z s (mix (m.Z s) (delI (m.Z s) i) (j + 1))⟩)) := Lib.hid fun w3 h3 => by
        rw [upd_upd, upd_at, ← hms] at h3
        exact Lib.hid (hst.out.trans h3)
      by_cases he : (m.Z s).getD j 0 = y
      · have hb : (u != u) = false := by simp
        rw [he, hu] at HG
        have HT2 := HT.out _ (ISN.same hst.out.1 (Below.refl _ _) |>.mono (Nat.le_succ _) |> fun h => by rw [show (upd m.Z s (mix (m.Z s) (delI (m.Z s) i) j) s).set j y = upd m.Z s (mix (m.Z s) (delI (m.Z s) i) j) s from by rw [← he, ← hz]; exact set_same_at (by rw [upd_at]; exact wf_mix HWF.out.1 HWF.out.2 hj) hlt, upd_same]; exact h)
        clear HT hst hz hyj hms hu hy he hx
        go_wp2_with (go_at_call 43; refine HG.out.mono ?_; rintro e w' ⟨rfl, rfl⟩)
        go_roundw
        case rel => exact ⟨j + 1, by omega, by go_num, HT2⟩
        case measure => simp [intOf]; omega
      · obtain ⟨v, hv⟩ : ∃ v, sg ((m.Z s).getD j 0) = v := ⟨_, rfl⟩
        rw [hv] at HG
        have hb : (u != v) = true := by
          rw [bne_iff_ne]
          exact fun e => he (sg_inj (HWF.out.1.2 j) hx (by rw [hv, hu, e]))
        have HP := Lib.hid (is_set (m' := ⟨m.H, upd (upd m.Z s (mix (m.Z s) (delI (m.Z s) i) j)) s ((upd m.Z s (mix (m.Z s) (delI (m.Z s) i) j) s).set j y)⟩) hst.out.1 (by omega) ((a : Int) + (j : Int)) u (by have := HA.out; omega) (fun cs hcs => by rw [← Int.natCast_add, ← HA.out, ← hu]; exact hcs.setWord hs hlt y hx))
        clear hst hz hyj hms hu hy he hv hx
        go_wp2_with (first | (go_at_call 43; refine HG.out.mono ?_; rintro e w' ⟨rfl, rfl⟩) | (go_at_call 52; refine HP.out.mono ?_; rintro e w3 ⟨rfl, h3⟩; have H3 := HT.out _ h3; clear h3))
        go_roundw
        case rel => exact ⟨j + 1, by omega, by go_num, H3⟩
        case measure => simp [intOf]; omega
    · obtain rfl : j = 4 := by omega
      have HF2 := Lib.hid (show ISN w0 w wr col c b (k + 4) q ⟨m.H, upd m.Z s (delI (m.Z s) i)⟩ from by have := hst.out; rw [mix_four HWF.out.1 HWF.out.2] at this; exact this)
      clear hst
      go_wp2
      go_end0
      exact ⟨rfl, HF2.out⟩
theorem cl_gain {S : List Nat} (hS : wfB S) (Bi : Nat) (i : Int) (hc : w.cell? ⟨Bi, 0, none⟩ = some (.int .i64 i)) : Calls Tryd.prog 53 #[svL S, .pointer (some ⟨Bi, 0, none⟩)] w fun e w' => e = .returned (svL (addI S i)) ∧ Below w.heap.size w w' := by
  have hlt := World.block_lt_of_cell? _ _ hc
  have n1 : ∀ x0 x1 x2 x3 : Nat, ((w.alloc (.cells #[.int .u64 x0, .int .u64 x1, .int .u64 x2, .int .u64 x3] 48)).alloc (.cells #[.int .u64 0, .int .u64 0, .int .u64 0, .int .u64 0] 48)).cell? ⟨Bi, 0, none⟩ = some (.int .i64 i) := fun x0 x1 x2 x3 => ((fb_alloc (fb_alloc (Below.refl _ w) _) _).cell (p := ⟨Bi, 0, none⟩) hlt).trans hc
  have HC : Hid (∀ W : World, Calls Tryd.prog 30 #[svL S, .int .i64 i] W fun e w' => e = .returned (svL (addI S i)) ∧ Below W.heap.size W w') := Lib.hid fun W => badd_any hS i W
  obtain ⟨x0, x1, x2, x3, hZ, _⟩ := wf_form hS
  obtain ⟨y0, y1, y2, y3, hY, _⟩ := wf_form (wf_addI hS i)
  rw [hZ] at HC hY ⊢
  rw [hY] at HC ⊢
  rw [show svL [x0, x1, x2, x3] = .agg #[.int .u64 x0, .int .u64 x1, .int .u64 x2, .int .u64 x3] from rfl, show svL [y0, y1, y2, y3] = .agg #[.int .u64 y0, .int .u64 y1, .int .u64 y2, .int .u64 y3] from rfl] at HC ⊢
  have n2 := n1 x0 x1 x2 x3
  clear hS hZ hY hlt n1 hc
  go_enter Tryd.func53, Tryd.ntmps53
  go_wp2_with fail
  refine (HC.out _).mono ?_
  rintro e w1 ⟨rfl, hb1⟩
  have c0 : w1.cell? ⟨w.heap.size + 1, 0, none⟩ = some (.int .u64 0) := (hb1.cell (p := ⟨_, 0, none⟩) (by simp)).trans (by go_simp)
  have c1 : w1.cell? ⟨w.heap.size + 1, 1, none⟩ = some (.int .u64 0) := (hb1.cell (p := ⟨_, 1, none⟩) (by simp)).trans (by go_simp)
  have c2 : w1.cell? ⟨w.heap.size + 1, 2, none⟩ = some (.int .u64 0) := (hb1.cell (p := ⟨_, 2, none⟩) (by simp)).trans (by go_simp)
  have c3 : w1.cell? ⟨w.heap.size + 1, 3, none⟩ = some (.int .u64 0) := (hb1.cell (p := ⟨_, 3, none⟩) (by simp)).trans (by go_simp)
  have f0 : w1.frozen? ⟨w.heap.size + 1, 0, none⟩ = false := (hb1.frozen (p := ⟨_, 0, none⟩) (by simp)).trans (by go_simp)
  have f1 : w1.frozen? ⟨w.heap.size + 1, 1, none⟩ = false := (hb1.frozen (p := ⟨_, 1, none⟩) (by simp)).trans (by go_simp)
  have f2 : w1.frozen? ⟨w.heap.size + 1, 2, none⟩ = false := (hb1.frozen (p := ⟨_, 2, none⟩) (by simp)).trans (by go_simp)
  have f3 : w1.frozen? ⟨w.heap.size + 1, 3, none⟩ = false := (hb1.frozen (p := ⟨_, 3, none⟩) (by simp)).trans (by go_simp)
  have HB1 := Lib.hid (fb_call (fb_alloc (fb_alloc (Below.refl _ w) _) _) hb1)
  clear hb1 HC n2
  go_wp2
  exact bodyPost_ret (by simp [results, Tryd.results53, go_sem, c0, c1, c2, c3]) rfl ⟨rfl, (((HB1.out.setCell (Nat.le_succ _) _).setCell (Nat.le_succ _) _).setCell (Nat.le_succ _) _).setCell (Nat.le_succ _) _⟩
set_option maxHeartbeats 1000000 in
theorem change_gain (h : IS w0 w col c b k q m) (hk : k ≤ 900000000) (s a : Nat) (hs : s < 36) (ha : b.base + 256 + 4 * s = a) (Bi : Nat) (i : Int) (hc : w.cell? ⟨Bi, 0, none⟩ = some (.int .i64 i)) :
    Calls Tryd.prog 39 #[.pointer (some ⟨b.X, 0, none⟩), .int .i64 (a : Int), .func (.func 53) #[] #[.pointer (some ⟨Bi, 0, none⟩)]] w fun e w' => e = .returned (.tuple #[]) ∧ ISN w0 w w' col c b (k + 4) q ⟨m.H, upd m.Z s (addI (m.Z s) i)⟩ := by
  have hlt := World.block_lt_of_cell? _ _ hc
  have hwf := h.wf hs
  have hwf' := wf_addI hwf i
  have HS := Lib.hid (iset_any h s a hs ha)
  have HF : Hid (∀ W, Below w.heap.size w W → Calls Tryd.prog 53 #[svL (m.Z s), .pointer (some ⟨Bi, 0, none⟩)] W fun e w' => e = .returned (svL (addI (m.Z s) i)) ∧ Below W.heap.size W w') := Lib.hid fun W hb => cl_gain hwf Bi i ((hb.cell (p := ⟨Bi, 0, none⟩) hlt).trans hc)
  have H := Lib.hid h
  have hab : a ≤ 2000000 := by have := h.sm.base; omega
  have HA := Lib.hid ha
  have HWF := Lib.hid (And.intro hwf hwf')
  obtain ⟨x0, x1, x2, x3, hZ, _⟩ := wf_form hwf
  obtain ⟨y0, y1, y2, y3, hY, l0, l1, l2, l3⟩ := wf_form hwf'
  have HE := Lib.hid hY
  have HL := Lib.hid (show ∀ j, [y0, y1, y2, y3].getD j 0 < 2 ^ 64 from (wf_mk l0 l1 l2 l3).2)
  rw [hY, hZ] at HF
  rw [hZ] at HS
  rw [show svL [x0, x1, x2, x3] = .agg #[.int .u64 x0, .int .u64 x1, .int .u64 x2, .int .u64 x3] from rfl] at HS HF
  rw [show svL [y0, y1, y2, y3] = .agg #[.int .u64 y0, .int .u64 y1, .int .u64 y2, .int .u64 y3] from rfl] at HF
  clear h hwf hwf' ha hZ hY l0 l1 l2 l3 hlt hc
  go_enter Tryd.func39, Tryd.ntmps39
  go_wp2_with fail
  refine HS.out.mono ?_
  rintro e w1 ⟨rfl, hb1⟩
  have HB1 := Lib.hid hb1
  clear hb1 HS
  go_wp2_with fail
  refine (HF.out _ HB1.out).mono ?_
  rintro e w2 ⟨rfl, hb2⟩
  have HN := Lib.hid (ISN.same H.out (fb_call HB1.out hb2))
  clear hb2 HF HB1
  go_wp2
  go_loopw [13] (fun x wr => ∃ j : Nat, j ≤ 4 ∧ x = .int .i64 j ∧ Hid (ISN w0 w wr col c b (k + j) q ⟨m.H, upd m.Z s (mix (m.Z s) (addI (m.Z s) i) j)⟩)) (fun x _ => 4 - (intOf x).toNat)
  case atStart => exact ⟨0, by omega, rfl, Lib.hid (by rw [mix_zero, upd_same]; exact HN.out)⟩
  case round =>
    obtain ⟨j, hj, rfl, hst⟩ := hrel
    clear HN
    by_cases hlt : j < 4
    · have j0 : (0 : Int) ≤ j := by omega
      have j4 : (j : Int) < 4 := by omega
      have hix := ix_set y0 y1 y2 y3 j hlt
      have cx : wr.cell? ⟨b.X, 0, none⟩ = some (.pointer (some ⟨b.T, 0, none⟩)) := hst.out.1.fo.x.cell 0
      have hz : (upd m.Z s (mix (m.Z s) (addI (m.Z s) i) j) s).getD j 0 = (m.Z s).getD j 0 := by rw [upd_at]; exact mix_at HWF.out.1 HWF.out.2 hlt
      have HG := Lib.hid (is_getB hst.out.1 a j s hs hlt HA.out (Below.refl _ _))
      rw [hz] at HG
      have hx := HL.out j
      have hyj : (addI (m.Z s) i).getD j 0 = [y0, y1, y2, y3].getD j 0 := by rw [HE.out]
      obtain ⟨y, hy⟩ : ∃ y, [y0, y1, y2, y3].getD j 0 = y := ⟨_, rfl⟩
      rw [hy] at hix hx hyj
      obtain ⟨u, hu⟩ : ∃ u, sg y = u := ⟨_, rfl⟩
      have hu' : IntKind.i64.wrap (y : Int) = u := hu
      have hms := mix_succ HWF.out.1 HWF.out.2 hlt
      rw [hyj] at hms
      have HT : Hid (∀ w3 : World, ISN w0 wr w3 (recol w.heap.size col c) c b (k + j + 1) q ⟨m.H, upd (upd m.Z s (mix (m.Z s) (addI (m.Z s) i) j)) s ((upd m.Z s (mix (m.Z s) (addI (m.Z s) i) j) s).set j y)⟩ → Hid (ISN w0 w w3 col c b (k + (j + 1)) q ⟨m.H, upd m.Z s (mix (m.Z s) (addI (m.Z s) i) (j + 1))⟩)) := Lib.hid fun w3 h3 => by
        rw [upd_upd, upd_at, ← hms] at h3
        exact Lib.hid (hst.out.trans h3)
      by_cases he : (m.Z s).getD j 0 = y
      · have hb : (u != u) = false := by simp
        rw [he, hu] at HG
        have HT2 := HT.out _ (ISN.same hst.out.1 (Below.refl _ _) |>.mono (Nat.le_succ _) |> fun h => by rw [show (upd m.Z s (mix (m.Z s) (addI (m.Z s) i) j) s).set j y = upd m.Z s (mix (m.Z s) (addI (m.Z s) i) j) s from by rw [← he, ← hz]; exact set_same_at (by rw [upd_at]; exact wf_mix HWF.out.1 HWF.out.2 hj) hlt, upd_same]; exact h)
        clear HT hst hz hyj hms hu hy he hx
        go_wp2_with (go_at_call 43; refine HG.out.mono ?_; rintro e w' ⟨rfl, rfl⟩)
        go_roundw
        case rel => exact ⟨j + 1, by omega, by go_num, HT2⟩
        case measure => simp [intOf]; omega
      · obtain ⟨v, hv⟩ : ∃ v, sg ((m.Z s).getD j 0) = v := ⟨_, rfl⟩
        rw [hv] at HG
        have hb : (u != v) = true := by
          rw [bne_iff_ne]
          exact fun e => he (sg_inj (HWF.out.1.2 j) hx (by rw [hv, hu, e]))
        have HP := Lib.hid (is_set (m' := ⟨m.H, upd (upd m.Z s (mix (m.Z s) (addI (m.Z s) i) j)) s ((upd m.Z s (mix (m.Z s) (addI (m.Z s) i) j) s).set j y)⟩) hst.out.1 (by omega) ((a : Int) + (j : Int)) u (by have := HA.out; omega) (fun cs hcs => by rw [← Int.natCast_add, ← HA.out, ← hu]; exact hcs.setWord hs hlt y hx))
        clear hst hz hyj hms hu hy he hv hx
        go_wp2_with (first | (go_at_call 43; refine HG.out.mono ?_; rintro e w' ⟨rfl, rfl⟩) | (go_at_call 52; refine HP.out.mono ?_; rintro e w3 ⟨rfl, h3⟩; have H3 := HT.out _ h3; clear h3))
        go_roundw
        case rel => exact ⟨j + 1, by omega, by go_num, H3⟩
        case measure => simp [intOf]; omega
    · obtain rfl : j = 4 := by omega
      have HF2 := Lib.hid (show ISN w0 w wr col c b (k + 4) q ⟨m.H, upd m.Z s (addI (m.Z s) i)⟩ from by have := hst.out; rw [mix_four HWF.out.1 HWF.out.2] at this; exact this)
      clear hst
      go_wp2
      go_end0
      exact ⟨rfl, HF2.out⟩
end
end Go.Proofs.YtcgadmeagbcbnaaDoor
