/- The document's Set. No condition. -/
import Derived.Test.YtfkkkndigkchcaaTrailPl
namespace Go.Proofs.Ytfkkkndigkchcaa
open Go.RowKit

theorem infoSlR : (Try.prog.info? 34).map (fun i => (i.zero, i.size, i.bytes)) = some (some (.slice none 0 0), 1, 24) := by kernel_rfl
section
variable {w0 w w3 : World} {col : Nat → Nat} {T R B cap n : Nat} {ts : List Int × List (Int × Int)} {vals : List Value} {L L' : Nat → List Int} {v1 v3 : Value}
/-- A row more, and stored. -/
theorem PL.more (h : PL 0 w0 w col T R B cap ts vals L) (hv : RowC w col 5 w0.heap.size 3 1 v1 (L' vals.length).length ((L' vals.length).map (Value.int .i64))) (hf1 : ∃ g c, v1 = .slice (some ⟨g, 0, none⟩) (L' vals.length).length c)
    (hL : ∀ k, k < vals.length → L' k = L k) (hw : w3.ownsRow w0.heap.size 34 1 v3 (vals.length + 1) (vals ++ [v1])) (hg : w.grownBy w3 (some B)) (hf : ∀ k, v3.ownBlock = some k → some B = some k ∨ w.heap.size ≤ k) :
    ∃ B' cap' col', PL 0 w0 (w3.setCell ⟨R, 0, none⟩ v3) col' T R B' cap' ts (vals ++ [v1]) L' ∧ Keep6 w col (w3.setCell ⟨R, 0, none⟩ v3) col' := by
  have hs := h.s (by decide)
  have hSB : ∀ k, some B = some k → k < w.heap.size → col k = 3 := fun k hk _ => hs.2 k hk
  have hm := moved_grown hg
  have k := h.moved (a := 3) hm hSB (row_base hs.1)
  have hs3 : RowC w3 (recol w.heap.size col 3) 3 w0.heap.size 34 1 v3 (vals.length + 1) (vals ++ [v1]) := hs.grew hw hf
  have hr3 := k.r (by decide)
  obtain ⟨B', cap', rfl⟩ := own_form hw (by omega)
  have mv := Moved.of_set w3 ⟨R, 0, none⟩ (.slice (some ⟨B', 0, none⟩) (vals.length + 1) cap') (S := fun q => q = R) rfl
  have hS2 : ∀ q, q = R → q < w3.heap.size → recol w.heap.size col 3 q = 2 := fun q hq _ => by rw [hq]; exact hr3.2.1
  have hbel : Below w0.heap.size w0 (w3.setCell ⟨R, 0, none⟩ (.slice (some ⟨B', 0, none⟩) (vals.length + 1) cap')) := k.bel.setCell hr3.2.2 _
  have hln : (vals ++ [v1]).length = vals.length + 1 := by simp
  refine ⟨B', cap', recol w3.heap.size (recol w.heap.size col 3) 2, ⟨hbel, fun _ => (k.t (by decide)).step mv hbel hS2 (by decide), fun _ => ⟨?_, (recol_lt hr3.1.lt).trans hr3.2.1, hr3.2.2⟩, fun _ => ?_, fun _ j v hj => ?_⟩, (Keep6.moved hm hSB (by decide)).trans hm.size (Keep6.moved mv hS2 (by decide))⟩
  · rw [hln]; exact hr3.1.set 0 _
  · rw [hln]; exact hs3.step mv hS2 (by decide)
  · by_cases e : j < vals.length
    · rw [List.getElem?_append_left e] at hj
      rw [hL j e]
      exact ⟨(k.e (by decide) j v hj).1.step mv hS2 (by decide), (k.e (by decide) j v hj).2⟩
    · have hj2 : j < (vals ++ [v1]).length := (List.getElem?_eq_some_iff.1 hj).1
      obtain rfl : j = vals.length := by omega
      have : v = v1 := by simpa using hj.symm
      subst this
      exact ⟨(hv.step hm hSB (by decide)).step mv hS2 (by decide), hf1⟩
theorem PL.grown (h : PL 0 w0 w col T R B cap ts vals L) (hg : w.grownBy w3 (some B)) : w3.cell? ⟨R, 0, none⟩ = some (.slice (some ⟨B, 0, none⟩) vals.length cap) ∧ w3.frozen? ⟨R, 0, none⟩ = false := by
  have hs := h.s (by decide)
  have k := (h.moved (a := 3) (moved_grown hg) (fun k hk _ => hs.2 k hk) (row_base hs.1)).r (by decide)
  exact ⟨by rw [k.1.cell]; rfl, k.1.frozen 0⟩
/-- The blocks of the colour 7 get the colour 5. -/
def paint (col : Nat → Nat) (k : Nat) : Nat := if col k = 7 then 5 else col k
theorem paint_ne {col : Nat → Nat} {k c : Nat} (h : col k = c) (hc : c ≠ 7) : paint col k = c := by unfold paint; rw [if_neg (by omega)]; exact h
theorem RowC.paint {w : World} {col : Nat → Nat} {c base : Nat} {e : TypeId} {size n : Nat} {v : Value} {xs : List Value} (h : RowC w col c base e size v n xs) (hc : c ≠ 7) : RowC w (paint col) c base e size v n xs := ⟨h.1, fun k hk => paint_ne (h.2 k hk) hc⟩
theorem PL.paint (h : PL 0 w0 w col T R B cap ts vals L) : PL 0 w0 w (paint col) T R B cap ts vals L := by
  obtain ⟨O, o1, o2⟩ := h.t (by decide)
  have hr := h.r (by decide)
  exact ⟨h.bel, fun _ => ⟨O, fun k hk => paint_ne (o1 k hk) (by decide), o2⟩, fun _ => ⟨hr.1, paint_ne hr.2.1 (by decide), hr.2.2⟩, fun _ => (h.s (by decide)).paint (by decide), fun _ j v hj => ⟨(h.e (by decide) j v hj).1.paint (by decide), (h.e (by decide) j v hj).2⟩⟩
theorem PL.zero (h : PL 7 w0 w col T R B cap ts vals L) : PL 0 w0 w col T R B cap ts vals L :=
  ⟨h.bel, fun _ => h.t (by decide), fun _ => h.r (by decide), fun _ => h.s (by decide), fun _ => h.e (by decide)⟩
theorem rset_mid {w1 : World} {nq g1 cp1 ln j : Nat} {l : List Int} (h : PL 0 w0 w col T R B cap ts vals L) (hown : w1.ownsRow w.heap.size 3 1 (.slice (some ⟨g1, 0, none⟩) ln cp1) ln (l.map (Value.int .i64))) (hg : (w.drewN nq).grownBy w1 none) (hj : j < ln) (hln : l.length = ln) (v : Int) :
    w1.cell? ⟨g1, j, none⟩ = some (.int .i64 (l.getD j 0)) ∧ w1.frozen? ⟨g1, j, none⟩ = false ∧ ∃ col2, PL 0 w0 (w1.setCell ⟨g1, j, none⟩ (.int .i64 v)) col2 T R B cap ts vals L ∧ Keep6 w col (w1.setCell ⟨g1, j, none⟩ (.int .i64 v)) col2 ∧
      RowC (w1.setCell ⟨g1, j, none⟩ (.int .i64 v)) col2 5 w0.heap.size 3 1 (.slice (some ⟨g1, 0, none⟩) (l.set j v).length cp1) (l.set j v).length ((l.set j v).map (Value.int .i64)) := by
  subst hln
  have hb : Below w.heap.size w w1 := ⟨hg.os, hg.tape, hg.output, hg.size, fun k hk => hg.block k hk (by simp)⟩
  have k1 := h.made 7 hb
  have v1 : RowC w1 (recol w.heap.size col 7) 7 w0.heap.size 3 1 (.slice (some ⟨g1, 0, none⟩) l.length cp1) l.length (l.map (Value.int .i64)) := RowC.fresh 7 hown h.bel.size
  have i1 : IRow w1 w0.heap.size (.slice (some ⟨g1, 0, none⟩) l.length cp1) l := v1.1
  have mv := Moved.of_set w1 ⟨g1, j, none⟩ (.int .i64 v) (S := fun q => q = g1) rfl
  have hS : ∀ q, q = g1 → q < w1.heap.size → recol w.heap.size col 7 q = 7 := fun q hq _ => v1.2 q (by rw [hq]; rfl)
  have k2 := (k1.moved (a := 7) mv hS (fun q hq => by rw [hq]; exact i1.base.1)).zero.paint
  have e6 := ((Keep6.made col 7 hb).trans hb.size (Keep6.moved mv hS (by decide)))
  refine ⟨i1.cell hj, i1.frozen j, _, k2, fun k hk e => ⟨(e6 k hk e).1, paint_ne (e6 k hk e).2 (by decide)⟩, ?_⟩
  have i2 := i1.set j v
  unfold IRow at i2
  rw [List.length_set] at i2 ⊢
  refine ⟨i2, fun k hk => ?_⟩
  have hk2 : k = g1 := by injection hk with e; exact e.symm
  subst hk2
  show (if recol _ _ _ _ = 7 then 5 else _) = 5
  rw [if_pos]
  exact (recol_lt i1.base.2).trans (v1.2 k rfl)
theorem rset_out (h : PL 0 w0 w col T R B cap ts vals L) (hn : vals.length = n + 1) (h63 : n ≤ 1000000) (i v : Int) (hi : ¬ (0 ≤ i ∧ i < (L n).length)) : Calls Try.prog 23 #[.pointer (some ⟨R, 0, none⟩), .int .i64 i, .int .i64 v] w fun e w' => e = .returned (.tuple #[]) ∧ ∃ nq, w' = w.drewN nq := by
  have H := Lib.hid (rnow_any h hn h63)
  clear h hn
  obtain ⟨ln, hln⟩ : ∃ ln, (L n).length = ln := ⟨_, rfl⟩
  rw [hln] at hi
  have HX := Lib.hid hln
  clear hln
  by_cases h0 : i < 0
  · clear hi
    go_enter Try.func23, Try.ntmps23
    go_wp2_with fail
    refine H.out.mono ?_
    rintro e w' ⟨a, c, rfl, _, hr, nq, rfl⟩
    rw [HX.out]
    clear hr
    go_wp2
    refine bodyPost_ret (results_none rfl _ _ _) rfl ?_
    exact ⟨rfl, nq, rfl⟩
  · have h1 : (ln : Int) ≤ i := by omega
    clear hi
    go_enter Try.func23, Try.ntmps23
    go_wp2_with fail
    refine H.out.mono ?_
    rintro e w' ⟨a, c, rfl, _, hr, nq, rfl⟩
    rw [HX.out]
    clear hr
    go_wp2
    refine bodyPost_ret (results_none rfl _ _ _) rfl ?_
    exact ⟨rfl, nq, rfl⟩
theorem rset_same (h : PL 0 w0 w col T R B cap ts vals L) (hn : vals.length = n + 1) (h63 : n ≤ 1000000) (j : Nat) (v : Int) (hj : j < (L n).length) (hv : (L n).getD j 0 = v) : Calls Try.prog 23 #[.pointer (some ⟨R, 0, none⟩), .int .i64 j, .int .i64 v] w fun e w' => e = .returned (.tuple #[]) ∧ ∃ nq, w' = w.drewN nq := by
  have H := Lib.hid (rnow_any h hn h63)
  clear h hn
  obtain ⟨ln, hln⟩ : ∃ ln, (L n).length = ln := ⟨_, rfl⟩
  rw [hln] at hj
  have HX := Lib.hid (And.intro hv hln)
  have j0 : (0 : Int) ≤ j := by omega
  have j1 : (j : Int) < ln := by omega
  clear hln hv
  go_enter Try.func23, Try.ntmps23
  go_wp2_with fail
  refine H.out.mono ?_
  rintro e w' ⟨a, c, rfl, _, hr, nq, rfl⟩
  rw [HX.out.2] at hr ⊢
  have hr1 : IRow w w0.heap.size (.slice (some ⟨a, 0, none⟩) ln c) (L n) := by rw [← HX.out.2] at hr ⊢; exact hr.1
  have c1 : (w.drewN nq).cell? ⟨a, j, none⟩ = some (.int .i64 v) := by
    have := (hr1.below (bel_drewN (Below.refl _ _) nq)).cell (j := j) (by rw [HX.out.2]; exact hj)
    rw [HX.out.1] at this; exact this
  clear hr hr1
  go_wp2
  refine bodyPost_ret (results_none rfl _ _ _) rfl ?_
  exact ⟨rfl, nq, rfl⟩
set_option maxRecDepth 100000 in
set_option maxHeartbeats 1000000 in
theorem rset_any (h : PL 0 w0 w col T R B cap ts vals L) (hn : vals.length = n + 1) (h63 : n ≤ 1000000) (j : Nat) (v : Int) (hj : j < (L n).length) (hv : (L n).getD j 0 ≠ v) (hlen : (L n).length ≤ 1048576) (hL : ∀ k, k < vals.length → L' k = L k) (hL' : L' (n + 1) = (L n).set j v) :
    Calls Try.prog 23 #[.pointer (some ⟨R, 0, none⟩), .int .i64 j, .int .i64 v] w fun e w' => e = .returned (.tuple #[]) ∧ ∃ B' cap' col' v1, PL 0 w0 w' col' T R B' cap' ts (vals ++ [v1]) L' ∧ Keep6 w col w' col' := by
  obtain ⟨i0, hi, hz0, hz1, hz2⟩ := info_parts infoI
  obtain ⟨i1, hk, hy0, hy1, hy2⟩ := info_parts infoSlR
  have H := Lib.hid (rnow_any h hn h63)
  obtain ⟨ln, hln⟩ : ∃ ln, (L n).length = ln := ⟨_, rfl⟩
  obtain ⟨x, hx⟩ : ∃ x, (L n).getD j 0 = x := ⟨_, rfl⟩
  rw [hx] at hv
  rw [hln] at hj hlen
  have hvB : (x == v) = false := by simp [hv]
  have HX := Lib.hid (And.intro hx (And.intro hln (And.intro h (And.intro hn (And.intro hL hL')))))
  have j0 : (0 : Int) ≤ j := by omega
  have j1 : (j : Int) < ln := by omega
  clear hln hv hx h hn hL hL'
  go_enter Try.func23, Try.ntmps23
  go_wp2_with fail
  refine H.out.mono ?_
  rintro e w' ⟨a, c, rfl, _, hr, nq, rfl⟩
  rw [HX.out.2.1] at hr ⊢
  have hr1 : IRow (w.drewN nq) w0.heap.size (.slice (some ⟨a, 0, none⟩) ln c) (L n) := IRow.below (w := w) (by rw [← HX.out.2.1] at hr ⊢; exact hr.1) (bel_drewN (Below.refl _ _) nq)
  have c1 : (w.drewN nq).cell? ⟨a, j, none⟩ = some (.int .i64 x) := by
    have := hr1.cell (j := j) (by rw [HX.out.2.1]; exact hj)
    rw [HX.out.1] at this; exact this
  have HR := Lib.hid hr1
  clear hr hr1 H
  have hB0 := HX.out.2.2.1.bel.size
  go_wp2_with (first
    | (at_builtin; refine wpList_append_fresh _ rfl _ _ 34 rfl w.heap.size 3 i0 (.int .i64 0) 1 8 Try.underlying34 hi hz0 hz1 hz2 rfl (by decide) (.slice none 0 0) 0 [] rfl (World.ownsRow_nil _ _ _ _) ⟨a, 0, none⟩ ln c ((L n).map (Value.int .i64)) rfl (by rw [List.length_map, HX.out.2.1]; omega) (fun q u hq => World.ownsRow.cells (g := a) HR.out rfl q u hq) (by simp [Value.oneCell']) (by unfold maxLen; omega) (by omega) (by simp) ?_; intro v1 w1 hown' hgrow hfr'; rw [Nat.zero_add, List.nil_append] at hown'; obtain ⟨g1, cp1, rfl⟩ := own_form hown' (by omega); have hmid := rset_mid HX.out.2.2.1 hown' hgrow hj HX.out.2.1 v; rw [HX.out.1] at hmid; obtain ⟨c2, f2, col2, P2, K2, V2⟩ := hmid; have c3 := P2.c0; rw [HX.out.2.2.2.1] at c3; have hz0' : w.heap.size ≤ w1.heap.size := hgrow.size; have hz : w0.heap.size ≤ w1.heap.size := Nat.le_trans hB0 hgrow.size; have hal := (Below.refl (w1.setCell ⟨g1, j, none⟩ (.int .i64 v)).heap.size (w1.setCell ⟨g1, j, none⟩ (.int .i64 v))).alloc (Nat.le_refl _) (.cells #[.slice (some ⟨g1, 0, none⟩) ln cp1] 34); have P3 := P2.made 0 hal; have hrow := (P3.s (by decide)).1; rw [HX.out.2.2.2.1] at hrow; have H3 := Lib.hid (And.intro P3 (And.intro (K2.trans (by simp at hz0' ⊢; omega) (Keep6.made col2 0 hal)) (V2.made 0 hal))); clear P3 hal P2 K2 V2 hown' hgrow hfr')
    | (at_builtin; refine wpList_append_fresh _ rfl (.tmp 37) (.tmp 39) 40 rfl w0.heap.size 34 i1 (.slice none 0 0) 1 24 Try.underlying40 hk hy0 hy1 hy2 rfl (by decide) (.slice (some ⟨B, 0, none⟩) (n + 1) cap) (n + 1) vals (by simp [Act.eval]) hrow ⟨(w1.setCell ⟨g1, j, none⟩ (.int .i64 v)).heap.size, 0, none⟩ 1 1 [.slice (some ⟨g1, 0, none⟩) ln cp1] (by simp [Act.eval]) rfl (cell_one_new _ _ _) (by simp [Value.oneCell']) (by unfold maxLen; omega) (by omega) (by simp; omega) ?_; intro v3 w3 hown3 hgrow3 hfr3; obtain ⟨B3, cp3, rfl⟩ := own_form hown3 (by omega); have c4 := (H3.out.1.grown hgrow3).1; have f4 := (H3.out.1.grown hgrow3).2; rw [HX.out.2.2.2.1] at c4; have H4 := Lib.hid (And.intro hown3 (And.intro hgrow3 hfr3)); clear hown3 hgrow3 hfr3))
  go_end0
  refine ⟨rfl, ?_⟩
  obtain ⟨_, e2, _, hn, hL, hL'⟩ := HX.out
  have e : L' vals.length = (L n).set j v := by rw [hn]; exact hL'
  have hsl : ((L n).set j v).length = ln := by rw [List.length_set]; exact e2
  have hv5 := H3.out.2.2
  rw [hsl] at hv5
  have hw3 := H4.out.1
  rw [← hn] at hw3
  obtain ⟨B', cap', col', p, k6⟩ := PL.more (L' := L') H3.out.1 (by rw [e, hsl]; exact hv5) ⟨g1, cp1, by rw [e, hsl]⟩ hL hw3 H4.out.2.1 H4.out.2.2
  rw [hn] at p k6
  exact ⟨B', cap', col', _, p, H3.out.2.1.trans (by simp; omega) k6⟩
end
end Go.Proofs.Ytfkkkndigkchcaa
