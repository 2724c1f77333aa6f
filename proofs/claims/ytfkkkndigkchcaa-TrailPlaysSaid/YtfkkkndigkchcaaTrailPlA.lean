/- The document's Alloc. No condition. -/
import Derived.Test.YtfkkkndigkchcaaTrailPlN
import Derived.Test.YtfkkkndigkchcaaTrailAllocW
namespace Go.Proofs.Ytfkkkndigkchcaa
open Go.RowKit

section
variable {w0 w : World} {col : Nat → Nat} {T R B cap n : Nat} {ts : List Int × List (Int × Int)} {vals : List Value} {L : Nat → List Int}
theorem ralloc_no (h : PL 0 w0 w col T R B cap ts vals L) (hn : vals.length = n + 1) (h63 : n ≤ 1000000) (k : Int) (hlen : (L n).length ≤ 1048576) (hk : ¬ canA (L n) k) : Calls Try.prog 21 #[.pointer (some ⟨R, 0, none⟩), .int .i64 k] w fun e w' => e = .returned (.int .i64 (-1)) ∧ ∃ nq, w' = w.drewN nq := by
  have H := Lib.hid (rnow_any h hn h63)
  clear h hn
  unfold canA at hk
  obtain ⟨ln, hln⟩ : ∃ ln, (L n).length = ln := ⟨_, rfl⟩
  rw [hln] at hk hlen
  have HX := Lib.hid hln
  clear hln
  by_cases h0 : k < 1
  · clear hk
    go_enter Try.func21, Try.ntmps21
    go_wp2_with fail
    refine H.out.mono ?_
    rintro e w' ⟨a, c, rfl, _, hr, nq, rfl⟩
    rw [HX.out]
    clear hr
    go_wp2
    go_ret
    exact ⟨rfl, nq, rfl⟩
  · by_cases h1 : 1048576 < k
    · clear hk
      go_enter Try.func21, Try.ntmps21
      go_wp2_with fail
      refine H.out.mono ?_
      rintro e w' ⟨a, c, rfl, _, hr, nq, rfl⟩
      rw [HX.out]
      clear hr
      go_wp2
      go_ret
      exact ⟨rfl, nq, rfl⟩
    · have h2 : (1048576 : Int) < ln + k := by omega
      clear hk
      go_enter Try.func21, Try.ntmps21
      go_wp2_with fail
      refine H.out.mono ?_
      rintro e w' ⟨a, c, rfl, _, hr, nq, rfl⟩
      rw [HX.out]
      clear hr
      go_wp2
      go_ret
      exact ⟨rfl, nq, rfl⟩
/-- What stands behind the first append of Alloc. -/
theorem ralloc_mid {w1 w2 : World} {nq ln m : Nat} {l : List Int} {v1 v2 : Value} (h : PL 0 w0 w col T R B cap ts vals L) (hown : w1.ownsRow w.heap.size 3 1 v1 ln (l.map (Value.int .i64))) (hg : (w.drewN nq).grownBy w1 none) (hln : l.length = ln) (hm : 0 < m)
    (hown2 : w2.ownsRow w.heap.size 3 1 v2 (ln + m) (l.map (Value.int .i64) ++ List.replicate m (.int .i64 0))) (hg2 : (w1.drew).grownBy w2 v1.ownBlock) (hf2 : ∀ k, v2.ownBlock = some k → v1.ownBlock = some k ∨ w1.drew.heap.size ≤ k) :
    ∃ g2 cp2 col2, v2 = .slice (some ⟨g2, 0, none⟩) (ln + m) cp2 ∧ PL 0 w0 w2 col2 T R B cap ts vals L ∧ Keep6 w col w2 col2 ∧
      RowC w2 col2 5 w0.heap.size 3 1 (.slice (some ⟨g2, 0, none⟩) (ln + m) cp2) (ln + m) ((l ++ List.replicate m 0).map (Value.int .i64)) := by
  subst hln
  have hb : Below w.heap.size w w1 := ⟨hg.os, hg.tape, hg.output, hg.size, fun k hk => hg.block k hk (by simp)⟩
  have hb2 : Below w.heap.size w w2 := hb.trans ⟨hg2.os, hg2.tape, hg2.output, hg2.size, fun k hk => hg2.block k (Nat.lt_of_lt_of_le hk hb.size) (fun e => by have := (World.ownsRow.lt hown k e.symm).1; omega)⟩
  obtain ⟨g2, cp2, rfl⟩ := own_form hown2 (by omega)
  refine ⟨g2, cp2, _, rfl, h.made 5 hb2, Keep6.made col 5 hb2, ?_⟩
  rw [List.map_append, List.map_replicate]
  exact RowC.fresh 5 hown2 h.bel.size
set_option maxRecDepth 100000 in
set_option maxHeartbeats 4000000 in
theorem ralloc_any {L' : Nat → List Int} (h : PL 0 w0 w col T R B cap ts vals L) (hn : vals.length = n + 1) (h63 : n ≤ 1000000) (m : Nat) (hm : 0 < m) (hlm : (L n).length + m ≤ 1048576) (hL : ∀ k, k < vals.length → L' k = L k) (hL' : L' (n + 1) = L n ++ List.replicate m 0) :
    Calls Try.prog 21 #[.pointer (some ⟨R, 0, none⟩), .int .i64 m] w fun e w' => e = .returned (.int .i64 (L n).length) ∧ ∃ B' cap' col' v1, PL 0 w0 w' col' T R B' cap' ts (vals ++ [v1]) L' ∧ Keep6 w col w' col' := by
  obtain ⟨i0, hi, hz0, hz1, hz2⟩ := info_parts infoI
  obtain ⟨i1, hk, hy0, hy1, hy2⟩ := info_parts infoSlR
  have H := Lib.hid (rnow_any h hn h63)
  obtain ⟨ln, hln⟩ : ∃ ln, (L n).length = ln := ⟨_, rfl⟩
  rw [hln] at hlm ⊢
  have HX := Lib.hid (And.intro hln (And.intro h (And.intro hn (And.intro hL hL'))))
  have m1 : (1 : Int) ≤ m := by omega
  have m2 : (m : Int) ≤ 1048576 := by omega
  have m3 : (ln : Int) + m ≤ 1048576 := by omega
  clear hln h hn hL hL'
  go_enter Try.func21, Try.ntmps21
  go_wp2_with fail
  refine H.out.mono ?_
  rintro e w' ⟨a, c, rfl, _, hr, nq, rfl⟩
  rw [HX.out.1] at hr ⊢
  have HR := Lib.hid (show IRow (w.drewN nq) w0.heap.size (.slice (some ⟨a, 0, none⟩) ln c) (L n) from IRow.below (w := w) (by rw [← HX.out.1] at hr ⊢; exact hr.1) (bel_drewN (Below.refl _ _) nq))
  clear hr H
  go_wp2_with (at_builtin; refine wpList_append_fresh _ rfl (.tmp 22) (.tmp 23) 34 rfl w.heap.size 3 i0 (.int .i64 0) 1 8 Try.underlying34 hi hz0 hz1 hz2 rfl (by decide) (.slice none 0 0) 0 [] (by simp [Act.eval]) (World.ownsRow_nil _ _ _ _) ⟨a, 0, none⟩ ln c ((L n).map (Value.int .i64)) (by simp [Act.eval]) (by rw [List.length_map, HX.out.1]; omega) (fun q u hq => World.ownsRow.cells (g := a) HR.out rfl q u hq) (by simp [Value.oneCell']) (by unfold maxLen; omega) (by omega) (by simp) ?_; intro v1 w1 hown' hgrow hfr'; rw [Nat.zero_add, List.nil_append] at hown')
  have hb1 : Below w.heap.size w w1 := ⟨hgrow.os, hgrow.tape, hgrow.output, hgrow.size, fun k hk => hgrow.block k hk (by simp [Value.ownBlock])⟩
  have hz : w.heap.size ≤ w1.heap.size := hgrow.size
  have hB0 := HX.out.2.1.bel.size
  have c0 := (HX.out.2.1.made 0 hb1).c0
  rw [HX.out.2.2.1] at c0
  have HO := Lib.hid (And.intro hown' hgrow)
  clear hown' hgrow hfr' hb1
  go_region_law (first
    | (refine step_zeros_own _ rfl (.tmp 30) (.tmp 31) 34 3 rfl w.heap.size 3 .i64 i0 (.int .i64 0) 8 Try.underlying34 Try.underlying3 hi hz0 hz1 hz2 rfl rfl v1 ln ((L n).map (Value.int .i64)) (by simp [Act.eval, Act.put]) HO.out.1.drew m (by simp [Act.eval, Act.put]) hm (by unfold maxLen; omega) (by omega) (by simp; omega) ?_; intro v2 w2 hown2 hgrow2 hfr2; obtain ⟨g2, cp2, col2, rfl, P2, K2, V2⟩ := ralloc_mid HX.out.2.1 HO.out.1 HO.out.2 HX.out.1 hm hown2 hgrow2 hfr2; have c2 := P2.c0; rw [HX.out.2.2.1] at c2; have hz2 : w0.heap.size ≤ w2.heap.size := P2.bel.size; have hz3 : w.heap.size ≤ w2.heap.size := Nat.le_trans hz hgrow2.size; have hal := (Below.refl w2.heap.size w2).alloc (Nat.le_refl _) (.cells #[.slice (some ⟨g2, 0, none⟩) (ln + m) cp2] 34); have P3 := P2.made 0 hal; have hrow := (P3.s (by decide)).1; rw [HX.out.2.2.1] at hrow; have c3 := P3.c0; rw [HX.out.2.2.1] at c3; have H3 := Lib.hid (And.intro P3 (And.intro (K2.trans hz3 (Keep6.made col2 0 hal)) (V2.made 0 hal))); clear P3 hal P2 K2 V2 hown2 hgrow2 hfr2)
    | (refine step_append_own rfl (.tmp 29) (.tmp 33) 40 rfl w0.heap.size 34 i1 (.slice none 0 0) 1 24 Try.underlying40 hk hy0 hy1 hy2 rfl (by decide) (.slice (some ⟨B, 0, none⟩) (n + 1) cap) (n + 1) vals (by simp [Act.eval]) hrow ⟨w2.heap.size, 0, none⟩ 1 1 [.slice (some ⟨g2, 0, none⟩) (ln + m) cp2] (by simp [Act.eval]) rfl (cell_one_new _ _ _) (by simp [Value.oneCell']) (by unfold maxLen; omega) (by omega) (by simp; omega) ?_; intro v3 w3 hown3 hgrow3 hfr3; obtain ⟨B3, cp3, rfl⟩ := own_form hown3 (by omega); have c4 := (H3.out.1.grown hgrow3).1; have f4 := (H3.out.1.grown hgrow3).2; rw [HX.out.2.2.1] at c4; have H4 := Lib.hid (And.intro hown3 (And.intro hgrow3 hfr3)); clear hown3 hgrow3 hfr3))
  all_goals
    go_wp2
    go_ret
    refine ⟨rfl, ?_⟩
    obtain ⟨e2, _, hn, hL, hL'⟩ := HX.out
    have e : L' vals.length = L n ++ List.replicate m 0 := by rw [hn]; exact hL'
    have hsl : (L n ++ List.replicate m 0).length = ln + m := by simp [e2]
    have hv5 := H3.out.2.2
    have hw3 := H4.out.1
    rw [← hn] at hw3
    obtain ⟨B', cap', col', p, k6⟩ := PL.more (L' := L') H3.out.1 (by rw [e, hsl]; exact hv5) ⟨g2, cp2, by rw [e, hsl]⟩ hL hw3 H4.out.2.1 H4.out.2.2
    rw [hn] at p k6
    exact ⟨B', cap', col', _, p, H3.out.2.1.trans (by simp; omega) k6⟩
end
end Go.Proofs.Ytfkkkndigkchcaa
