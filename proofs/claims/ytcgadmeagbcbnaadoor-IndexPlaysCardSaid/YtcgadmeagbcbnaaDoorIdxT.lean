/- What an index's has hands over: the keys of a card's abilities. No condition. -/
import Derived.Test.YtcgadmeagbcbnaaDoorIdxC
import Derived.Test.YtcgadmeagbcbnaaDoorThroughB
import Derived.Test.YtcgadmeagbcbnaaDoorQTailIn
import Derived.Laws.EntriesVeiled
namespace Go.Proofs.YtcgadmeagbcbnaaDoor
open Go.RowKit Go.Shelf
attribute [local irreducible] Calls
attribute [local go_sem] Oper.semAt_some

theorem has_any (b c : Value) (B : Nat) (i : Int) (hb : b = .pointer (some ⟨B, 0, none⟩)) (hc : c = .int .i64 i) (w : World) : Calls Tryd.prog 50 #[b, c] w fun e w' =>
    e = .returned (.func (.func 59) #[] #[.pointer (some ⟨w.heap.size + 1, 0, none⟩), .pointer (some ⟨w.heap.size, 0, none⟩)]) ∧ (w.alloc (.cells #[.pointer (some ⟨B, 0, none⟩)] 28)).alloc (.cells #[.int .i64 i] 3) = w' := by
  subst hb hc
  go_enter Tryd.func50, Tryd.ntmps50
  go_wp2
  go_ret
  exact ⟨rfl, rfl⟩
/-- What its iterator reads. -/
structure HP (n : Nat) (b : IB) (cd : Int) (Bc Bx : Nat) (W : World) : Prop where
  bc : Boxed W Bc 3 (.int .i64 cd)
  bx : Boxed W Bx 28 (.pointer (some ⟨b.X, 0, none⟩))
  f : IxF W b
  lt : ∀ j, b.has j → j < n
theorem HP.below {n : Nat} {b : IB} {cd : Int} {Bc Bx : Nat} {W W' : World} (h : HP n b cd Bc Bx W) (hb : Below W.heap.size W W') : HP n b cd Bc Bx W' :=
  ⟨(hb.block Bc h.bc.lt).trans h.bc, (hb.block Bx h.bx.lt).trans h.bx, h.f.below hb, h.lt⟩
theorem HP.put {n : Nat} {b : IB} {cd : Int} {Bc Bx : Nat} {W : World} {l : Nat} {o : Obj} (o' : Obj) (h : HP n b cd Bc Bx W) (hl : n ≤ l) (ho : W.heap[l]? = some o) (hc : o.isCells = false) : HP n b cd Bc Bx (W.putObj l o') :=
  ⟨Boxed.putObj ho hc h.bc, Boxed.putObj ho hc h.bx, h.f.block (fun j hj => World.putObj_heap_other (fun e => by have := h.lt j hj; omega)) (by simp [World.putObj]), h.lt⟩
theorem absOf_in {abs : List (List (Int × Int))} {i : Nat} (h : i < abs.length) : absOf abs (i : Int) = abs.getD i [] := by
  unfold absOf; rw [if_pos ⟨by omega, by omega⟩, Int.toNat_natCast]
theorem absOf_out {abs : List (List (Int × Int))} {i : Int} (h : i < 0 ∨ (abs.length : Int) ≤ i) : absOf abs i = [] := by
  unfold absOf; rw [if_neg (by omega)]
set_option maxRecDepth 100000 in
set_option maxHeartbeats 2000000 in
/-- Of no card. -/
theorem has1_none (d : Nat) (n : Nat) (b : IB) (cd : Int) (Bc Bx : Nat) (hcd : cd < 0 ∨ (b.abs.length : Int) ≤ cd) (w1 : World) (hP : HP n b cd Bc Bx w1) :
    HandsOverB d Tryd.prog 59 #[.pointer (some ⟨Bc, 0, none⟩), .pointer (some ⟨Bx, 0, none⟩)] (fun x : Int × Int => #[.agg #[.int .i64 x.1, .int .i64 x.2]]) (KpOf (HP n b cd Bc Bx)) [] w1 := by
  intro l J W hW hY hJb h0
  have hPW := hP.below hW
  clear hP hW hY
  obtain ⟨cva, cvc, hcv, _⟩ := hPW.f.c.form
  have c0 := hPW.bc.cell
  have c1 := hPW.bx.cell
  have c2 : W.cell? ⟨b.X, 1, none⟩ = some (.slice cva b.abs.length cvc) := hcv ▸ hPW.f.x.cell 1
  have HJ := Lib.hid h0
  have HJb := Lib.hid hJb
  clear hPW hJb h0 hcv
  generalize b.abs.length = al at hcd c2
  refine callsIn_of_wp Tryd.func59 rfl trivial ?_ rfl
  simp only [Tryd.ntmps59, List.size_toArray, List.length_cons, List.length_nil, Nat.reduceAdd, Nat.reduceSub, Array.replicate_succ, Array.replicate_zero, List.push_toArray, List.append_toArray, List.nil_append, List.cons_append]
  by_cases h0 : cd < 0
  · have hd0 : decide (cd < 0) = true := by simpa using h0
    clear hcd
    gi_wp2_with fail
    refine (wpIn_wide (n := _)).2 ?_
    refine wp_region_drewN_tail 10 (by kernel_rfl) (by kernel_rfl) ?_
    simp only [List.take_succ_cons, List.take_zero, List.drop_succ_cons, List.drop_zero]
    repeat (go_big_quiet_step (fail))
    refine wpQuiet_nil ?_
    intro _ hw'
    obtain ⟨nu, hw''⟩ := hw'
    subst hw''
    go_wp2
    gi_wp2
    exact bodyPost_ret (v := .tuple #[]) (by simp [results, Tryd.results59, go_sem]) rfl ⟨⟨_, rfl⟩, HJb.out _ _ _ HJ.out (fb_drewN (Below.refl _ W) nu)⟩
  · have hd0 : decide (cd < 0) = false := by simpa using h0
    have hd1 : decide ((al : Int) ≤ cd) = true := by simp; omega
    clear hcd
    gi_wp2_with fail
    refine (wpIn_wide (n := _)).2 ?_
    refine wp_region_drewN_tail 10 (by kernel_rfl) (by kernel_rfl) ?_
    simp only [List.take_succ_cons, List.take_zero, List.drop_succ_cons, List.drop_zero]
    repeat (go_big_quiet_step (fail))
    refine wpQuiet_nil ?_
    intro _ hw'
    obtain ⟨nu, hw''⟩ := hw'
    subst hw''
    go_wp2
    gi_wp2
    exact bodyPost_ret (v := .tuple #[]) (by simp [results, Tryd.results59, go_sem]) rfl ⟨⟨_, rfl⟩, HJb.out _ _ _ HJ.out (fb_drewN (Below.refl _ W) nu)⟩
set_option maxRecDepth 100000 in
set_option maxHeartbeats 4000000 in
theorem has1_in (d : Nat) (hd : 1 ≤ d) (n : Nat) (b : IB) (i : Nat) (hi : i < b.abs.length) (sm : ISm b) (Bc Bx : Nat) (w1 : World) (hP : HP n b i Bc Bx w1) :
    HandsOverB d Tryd.prog 59 #[.pointer (some ⟨Bc, 0, none⟩), .pointer (some ⟨Bx, 0, none⟩)] (fun x : Int × Int => #[.agg #[.int .i64 x.1, .int .i64 x.2]]) (KpOf (HP n b i Bc Bx)) (b.abs.getD i []) w1 := by
  intro l J W hW hY hJb h0
  have hPW := hP.below hW
  clear hP hW
  obtain ⟨q1, q2, _, q4⟩ := hPW.f.c
  obtain ⟨g, cap, ev, _, ec⟩ := q2.cell (i := i) (by omega)
  obtain ⟨a, c, ea, e3⟩ := own_form' (q4 i hi).1
  have e1 : b.cv = .slice (some ⟨g, 0, none⟩) b.abs.length cap := by rw [ev, q1]
  have e2 : W.cell? ⟨g, i * 11 + 10, none⟩ = some (.slice a (b.abs.getD i []).length c) := by rw [ec 10 (by omega), ← ea]; rfl
  have hl5 := sm.each i hi
  have hal := sm.len
  have c0 := hPW.bc.cell
  have c1 := hPW.bx.cell
  have c2 : W.cell? ⟨b.X, 1, none⟩ = some (.slice (some ⟨g, 0, none⟩) b.abs.length cap) := e1 ▸ hPW.f.x.cell 1
  have HJ := Lib.hid (And.intro h0 hPW)
  have HJb := Lib.hid hJb
  have HY := Lib.hid hY
  have HR : Hid (∀ W' : World, HP n b i Bc Bx W' → AbRow W' 0 (.slice a (b.abs.getD i []).length c) (b.abs.getD i [])) := Lib.hid fun W' hp => by
    have := (hp.f.c.2.2.2 i hi).1
    rw [ea] at this
    exact this
  clear hPW hJb h0 hY e1 q1 q2 q4 ev ec ea sm
  generalize b.abs.getD i [] = ks at e2 e3 hl5 HY HR ⊢
  obtain ⟨al, hal2⟩ : ∃ al, b.abs.length = al := ⟨_, rfl⟩
  rw [hal2] at hi hal c2
  clear hal2
  have i0 : (0 : Int) ≤ i := by omega
  have i1 : (i : Int) < al := by omega
  refine callsIn_of_wp Tryd.func59 rfl trivial ?_ rfl
  simp only [Tryd.ntmps59, List.size_toArray, List.length_cons, List.length_nil, Nat.reduceAdd, Nat.reduceSub, Array.replicate_succ, Array.replicate_zero, List.push_toArray, List.append_toArray, List.nil_append, List.cons_append]
  have hd0 : decide ((i : Int) < 0) = false := by simp
  have hd1 : decide ((al : Int) ≤ (i : Int)) = false := by simp; omega
  have hd2 : decide (al ≤ i) = false := by simp; omega
  gi_wp2_with fail
  refine (wpIn_wide (n := _)).2 ?_
  refine wp_region_drewN_tail 10 (by kernel_rfl) (by kernel_rfl) ?_
  simp only [List.take_succ_cons, List.take_zero, List.drop_succ_cons, List.drop_zero]
  repeat (go_big_quiet_step (fail))
  refine wpQuiet_nil ?_
  intro _ hw'
  obtain ⟨nu, hw''⟩ := hw'
  subst hw''
  go_wp2
  gi_wp2
  refine (wpIn_wide (n := _)).2 ?_
  refine wp_region_quiet_lit (by kernel_rfl) (by kernel_rfl) ?_
  repeat (go_big_quiet_step (fail))
  refine wpQuiet_nil ?_
  intro _ hw'
  obtain ⟨nu2, hw''⟩ := hw'
  subst hw''
  gi_wp2
  gi_loopw [26] (fun x wr => ∃ j : Nat, j ≤ ks.length ∧ x = .int .i64 j ∧ Hid (J j wr ∧ HP n b i Bc Bx wr)) (fun x _ => ks.length - (intOf x).toNat)
  case atStart => exact ⟨0, Nat.zero_le _, rfl, Lib.hid ⟨HJb.out _ _ _ HJ.out.1 (fb_drewN (fb_drewN (Below.refl _ W) nu) nu2), HJ.out.2.below (fb_drewN (fb_drewN (Below.refl _ W) nu) nu2)⟩⟩
  case round =>
    obtain ⟨j, hj, rfl, hst⟩ := hrel
    clear c0 c1 c2 e2 HJ
    by_cases hlt : j < ks.length
    · obtain ⟨g2, cap2, k1, k2, k3⟩ := (HR.out wr hst.out.2).cell hlt
      have hx : ks[j]? = some (ks.getD j (0, 0)) := by rw [List.getD_eq_getElem?_getD, List.getElem?_eq_getElem hlt]; rfl
      obtain ⟨⟨y0, y1⟩, hy⟩ : ∃ y, ks.getD j (0, 0) = y := ⟨_, rfl⟩
      rw [hy] at k3 hx
      have d0 : wr.cell? ⟨g2, j * 13, none⟩ = some (.int .i64 y0) := k3 0 (by omega)
      have d1 : wr.cell? ⟨g2, j * 13 + 1, none⟩ = some (.int .i64 y1) := k3 1 (by omega)
      have d2 : wr.cell? ⟨g2, j * 13 + 2, none⟩ = some (.int .i64 0) := k3 2 (by omega)
      have d3 : wr.cell? ⟨g2, j * 13 + 3, none⟩ = some (.int .i64 0) := k3 3 (by omega)
      have d4 : wr.cell? ⟨g2, j * 13 + 4, none⟩ = some (.int .i64 0) := k3 4 (by omega)
      have d5 : wr.cell? ⟨g2, j * 13 + 5, none⟩ = some (.int .i64 0) := k3 5 (by omega)
      have d6 : wr.cell? ⟨g2, j * 13 + 6, none⟩ = some (.int .i64 0) := k3 6 (by omega)
      have d7 : wr.cell? ⟨g2, j * 13 + 7, none⟩ = some (.bool false) := k3 7 (by omega)
      have d8 : wr.cell? ⟨g2, j * 13 + 8, none⟩ = some (.slice none 0 0) := k3 8 (by omega)
      have d9 : wr.cell? ⟨g2, j * 13 + 9, none⟩ = some (.slice none 0 0) := k3 9 (by omega)
      have d10 : wr.cell? ⟨g2, j * 13 + 10, none⟩ = some (.int .i64 0) := k3 10 (by omega)
      have d11 : wr.cell? ⟨g2, j * 13 + 11, none⟩ = some (.int .i64 0) := k3 11 (by omega)
      have d12 : wr.cell? ⟨g2, j * 13 + 12, none⟩ = some (.int .i64 0) := k3 12 (by omega)
      injection k1 with ka _ kc
      subst ka kc
      have j0 : (0 : Int) ≤ j := by omega
      have j1 : (j : Int) < ks.length := by omega
      have hbl := fb_alloc (Below.refl _ wr) (.cells #[.int .i64 y0, .int .i64 y1, .int .i64 0, .int .i64 0, .int .i64 0, .int .i64 0, .int .i64 0, .bool false, .slice none 0 0, .slice none 0 0, .int .i64 0, .int .i64 0, .int .i64 0] 81)
      obtain ⟨fn, tmps, assign, body, hyy, hRR⟩ := HY.out j (y0, y1) _ hx (HJb.out _ _ _ hst.out.1 hbl)
      try dsimp only at hyy
      have HS := Lib.hid (hst.out.2.below hbl)
      clear k3 hx hy hbl hst
      gi_wp2
      refine hRR.mono ?_
      rintro e W3 ⟨rfl, hJ3, hk3⟩
      have HE3 := Lib.hid (And.intro hJ3 (hk3 HS.out))
      clear hJ3 hk3
      gi_wp2
      go_roundw
      case rel => exact ⟨j + 1, by omega, by go_num, HE3⟩
      case measure => simp [intOf]; omega
    · obtain rfl : j = ks.length := by omega
      have HJ2 := Lib.hid hst.out.1
      clear hst
      gi_wp2
      go_end0
      exact ⟨⟨_, rfl⟩, HJ2.out⟩
end Go.Proofs.YtcgadmeagbcbnaaDoor
