/- The walk of ManaWays where it can not be paid. No condition. -/
import Derived.Test.YthbbmkkkjbocaaaManaS
import Derived.Test.YthbbmkkkjbocaaaOpen
import Derived.Test.YthbbmkkkjbocaaaInv
import Derived.Test.YthbbmkkkjbocaaaQTail
namespace Go.Proofs.Ythbbmkkkjbocaaa
open Go.RowKit

set_option maxRecDepth 100000 in
set_option maxHeartbeats 4000000 in
theorem ways_no (a' b' c' d' x' y' z' u' a b c d x y z u : Int) (hs1 : Hid (∀ W, Calls Try.prog 15 #[b8 a' b' c' d'] W fun e w' => e = .returned (mana a b c d) ∧ ∃ o1 o2 : Obj, (W.alloc o1).alloc o2 = w')) (hs2 : Hid (∀ W, Calls Try.prog 15 #[b8 x' y' z' u'] W fun e w' => e = .returned (mana x y z u) ∧ ∃ o1 o2 : Obj, (W.alloc o1).alloc o2 = w')) (bda : Hid (0 ≤ a ∧ a ≤ 12)) (bdb : Hid (0 ≤ b ∧ b ≤ 12)) (bdc : Hid (0 ≤ c ∧ c ≤ 12)) (bdd : Hid (0 ≤ d ∧ d ≤ 12)) (bdx : Hid (0 ≤ x ∧ x ≤ 12)) (bdy : Hid (0 ≤ y ∧ y ≤ 12)) (bdz : Hid (0 ≤ z ∧ z ≤ 12)) (bdu : Hid (0 ≤ u ∧ u ≤ 12)) (hno : Hid (a < x ∨ b < y ∨ c < z ∨ d + (a - x) + (b - y) + (c - z) < u)) (hcan : Hid (∀ W, Calls Try.prog 10 #[mana a b c d, mana x y z u] W fun e w' => e = .returned (.bool false) ∧ ∃ u, lat W u = w'))
    (hpay : Hid (∀ W, Calls Try.prog 8 #[mana a b c d, mana x y z u] W fun e w' => e = .returned (.tuple #[mana a b c d, .int .i64 13]) ∧ ∃ u, lat W u = w')) (w : World) :
    Calls Try.prog 5 #[b8 a' b' c' d', b8 x' y' z' u'] w fun e w' => e = .returned (.bool true) ∧ Below w.heap.size w w' := by
  go_enter Try.func5, Try.ntmps5
  go_wp2_with (go_at_call 12; refine (calls_lat (works_any _)).mono ?_; rintro e w' ⟨rfl, v1, rfl⟩)
  go_cut [5, 6, 16, 17, 18, 19] (fun s5 s6 _ _ _ _ wx => ∃ g1 g2 : Nat, s5 = .pointer (some ⟨g1, 0, none⟩) ∧ s6 = .pointer (some ⟨g2, 0, none⟩) ∧ Arr wx g1 .i64 a b c d ∧ Arr wx g2 .i64 x y z u ∧ Below w.heap.size w wx)
  case first =>
    have hA : Arr (lat ((w.alloc (.cells #[.int .u8 a', .int .u8 b', .int .u8 c', .int .u8 d'] 31)).alloc (.cells #[.int .u8 x', .int .u8 y', .int .u8 z', .int .u8 u'] 31)) v1) w.heap.size .u8 a' b' c' d' := ⟨by simp [go_sem], by simp [go_sem], by simp [go_sem], by simp [go_sem], by simp [go_sem], fun i => by simp [go_sem]⟩
    have hX : Arr (lat ((w.alloc (.cells #[.int .u8 a', .int .u8 b', .int .u8 c', .int .u8 d'] 31)).alloc (.cells #[.int .u8 x', .int .u8 y', .int .u8 z', .int .u8 u'] 31)) v1) (w.heap.size + 1) .u8 x' y' z' u' := ⟨by simp [go_sem], by simp [go_sem], by simp [go_sem], by simp [go_sem], by simp [go_sem], fun i => by simp [go_sem]⟩
    have hBB : Below w.heap.size w (lat ((w.alloc (.cells #[.int .u8 a', .int .u8 b', .int .u8 c', .int .u8 d'] 31)).alloc (.cells #[.int .u8 x', .int .u8 y', .int .u8 z', .int .u8 u'] 31)) v1) := (by repeat (first | exact Below.refl _ _ | refine fb_alloc ?_ _ | refine fb_lat ?_ _ | refine fb_drew ?_ | refine fb_drewN ?_ _))
    generalize (lat ((w.alloc (.cells #[.int .u8 a', .int .u8 b', .int .u8 c', .int .u8 d'] 31)).alloc (.cells #[.int .u8 x', .int .u8 y', .int .u8 z', .int .u8 u'] 31)) v1) = W0 at *
    refine wp_region_inv (fun l act wn => ∃ sl1 sc1 sl2 sc2 sp1 sp2 : Value, act = ⟨#[b8 a' b' c' d', b8 x' y' z' u', .pointer (some ⟨w.heap.size, 0, none⟩), .pointer (some ⟨w.heap.size + 1, 0, none⟩), .bool false, sp1, sp2, undef, undef, undef, undef, undef, undef, undef, .bool true, .bool false, sl1, sc1, sl2, sc2, undef, undef, undef, undef, undef, undef, undef, undef, undef, undef, undef, undef, undef, undef, undef, undef, undef, undef, undef, undef, undef, undef, undef, undef, undef, undef, undef, undef, undef, undef, undef, undef, undef, undef, undef, undef, undef, undef, undef, undef, undef, undef, undef, undef, undef, undef, undef, undef, undef, undef, undef, undef, undef, undef, undef, undef, undef, undef, undef, undef, undef, undef, undef, undef, undef, undef, undef, undef, undef, undef, undef, undef, undef, undef, undef, undef, undef, undef, undef, undef, undef, undef, undef, undef, undef, undef, undef, undef, undef, undef, undef, undef, undef, undef, undef, undef, undef, undef, undef, undef, undef, undef, undef, undef, undef, undef, undef, undef, undef, undef, undef], []⟩ ∧ (l 0 = true → sl1 = b8 a' b' c' d') ∧ (l 1 = true → sc1 = mana a b c d) ∧ (l 2 = true → sl2 = b8 x' y' z' u') ∧ (l 3 = true → sc2 = mana x y z u) ∧ (l 4 = true → ∃ g, sp1 = .pointer (some ⟨g, 0, none⟩) ∧ W0.heap.size ≤ g ∧ (if l 6 = true then Arr wn g .i64 a b c d else Arr wn g .i64 0 0 0 0)) ∧ (l 5 = true → ∃ g, sp2 = .pointer (some ⟨g, 0, none⟩) ∧ W0.heap.size ≤ g ∧ (if l 7 = true then Arr wn g .i64 x y z u else Arr wn g .i64 0 0 0 0)) ∧ (l 4 = true → l 5 = true → sp1 ≠ sp2) ∧ Below W0.heap.size W0 wn ∧ (l 6 = true → l 4 = true) ∧ (l 7 = true → l 5 = true)) (by kernel_rfl) (acB_spec (by kernel_rfl)) ?h0 ?hstep ?hend
    case h0 => exact ⟨undef, undef, undef, undef, undef, undef, rfl, by simp, by simp, by simp, by simp, by simp, by simp, by simp, ⟨rfl, rfl, rfl, Nat.le_refl _, fun _ _ => rfl⟩, by simp, by simp⟩
    case hstep =>
      intro i o ho l act wn hI hl haft
      obtain ⟨sl1, sc1, sl2, sc2, sp1, sp2, rfl, i0, i1, i2, i3, i4, i5, i6, iB, i46, i57⟩ := hI
      obtain ⟨ln0, n0, n1, n2, n3, nf⟩ := hA.below iB
      obtain ⟨lx0, x0, x1, x2, x3, xf⟩ := hX.below iB
      rcases i with _ | _ | _ | _ | _ | _ | _ | _ | i
      · obtain rfl := Option.some.inj ho
        refine wpOp_step rfl (fun K' hK' => ?_)
        have I := Lib.hid (And.intro i0 (And.intro i1 (And.intro i2 (And.intro i3 (And.intro i4 (And.intro i5 (And.intro i6 (And.intro iB (And.intro i46 i57)))))))))
        clear i0 i1 i2 i3 i4 i5 i6 iB i46 i57 haft hl
        go_simp
        obtain ⟨i0, i1, i2, i3, i4, i5, i6, iB, i46, i57⟩ := I.out
        exact hK' _ _ ⟨_, sc1, sl2, sc2, sp1, sp2, rfl, by simp, by simpa using i1, by simpa using i2, by simpa using i3, by simpa using i4, by simpa using i5, by simpa using i6, iB, by simpa using i46, by simpa using i57⟩
      · obtain rfl := Option.some.inj ho
        have e0 : l 0 = true := haft ⟨0, .data⟩ (by simp) rfl
        obtain rfl := i0 e0
        refine wpOp_step rfl (fun K' hK' => ?_)
        have I := Lib.hid (And.intro i0 (And.intro i1 (And.intro i2 (And.intro i3 (And.intro i4 (And.intro i5 (And.intro i6 (And.intro iB (And.intro i46 i57)))))))))
        clear i0 i1 i2 i3 i4 i5 i6 iB i46 i57 haft hl e0
        go_simp
        refine (hs1.out _).mono ?_; rintro e w' ⟨rfl, o1, o2, rfl⟩
        obtain ⟨i0, i1, i2, i3, i4, i5, i6, iB, i46, i57⟩ := I.out
        have hb : Below wn.heap.size wn ((wn.alloc o1).alloc o2) := fb_alloc (fb_alloc (Below.refl _ _) _) _
        exact hK' _ _ ⟨_, _, sl2, sc2, sp1, sp2, rfl, by simp, by simp, by simpa using i2, by simpa using i3, fun h => (i4 (by simpa using h)).imp fun g ⟨h1, h2, h3⟩ => ⟨h1, h2, arr_ite h3 hb⟩, fun h => (i5 (by simpa using h)).imp fun g ⟨h1, h2, h3⟩ => ⟨h1, h2, arr_ite h3 hb⟩, by simpa using i6, fb_call iB hb, by simpa using i46, by simpa using i57⟩
      · obtain rfl := Option.some.inj ho
        refine wpOp_step rfl (fun K' hK' => ?_)
        have I := Lib.hid (And.intro i0 (And.intro i1 (And.intro i2 (And.intro i3 (And.intro i4 (And.intro i5 (And.intro i6 (And.intro iB (And.intro i46 i57)))))))))
        clear i0 i1 i2 i3 i4 i5 i6 iB i46 i57 haft hl
        go_simp
        obtain ⟨i0, i1, i2, i3, i4, i5, i6, iB, i46, i57⟩ := I.out
        exact hK' _ _ ⟨sl1, sc1, _, sc2, sp1, sp2, rfl, by simpa using i0, by simpa using i1, by simp, by simpa using i3, by simpa using i4, by simpa using i5, by simpa using i6, iB, by simpa using i46, by simpa using i57⟩
      · obtain rfl := Option.some.inj ho
        have e0 : l 2 = true := haft ⟨2, .data⟩ (by simp) rfl
        obtain rfl := i2 e0
        refine wpOp_step rfl (fun K' hK' => ?_)
        have I := Lib.hid (And.intro i0 (And.intro i1 (And.intro i2 (And.intro i3 (And.intro i4 (And.intro i5 (And.intro i6 (And.intro iB (And.intro i46 i57)))))))))
        clear i0 i1 i2 i3 i4 i5 i6 iB i46 i57 haft hl e0
        go_simp
        refine (hs2.out _).mono ?_; rintro e w' ⟨rfl, o1, o2, rfl⟩
        obtain ⟨i0, i1, i2, i3, i4, i5, i6, iB, i46, i57⟩ := I.out
        have hb : Below wn.heap.size wn ((wn.alloc o1).alloc o2) := fb_alloc (fb_alloc (Below.refl _ _) _) _
        exact hK' _ _ ⟨sl1, sc1, _, _, sp1, sp2, rfl, by simpa using i0, by simpa using i1, by simp, by simp, fun h => (i4 (by simpa using h)).imp fun g ⟨h1, h2, h3⟩ => ⟨h1, h2, arr_ite h3 hb⟩, fun h => (i5 (by simpa using h)).imp fun g ⟨h1, h2, h3⟩ => ⟨h1, h2, arr_ite h3 hb⟩, by simpa using i6, fb_call iB hb, by simpa using i46, by simpa using i57⟩
      · obtain rfl := Option.some.inj ho
        refine wpOp_step rfl (fun K' hK' => ?_)
        have hn6 : l 6 = false := by
          cases h : l 6 with
          | false => rfl
          | true => rw [i46 h] at hl; cases hl
        have I := Lib.hid (And.intro i0 (And.intro i1 (And.intro i2 (And.intro i3 (And.intro i4 (And.intro i5 (And.intro i6 (And.intro iB (And.intro i46 (And.intro i57 hn6))))))))))
        clear i0 i1 i2 i3 i4 i5 i6 iB i46 i57 haft hl hn6
        go_simp
        obtain ⟨i0, i1, i2, i3, i4, i5, i6, iB, i46, i57, hn6⟩ := I.out
        have hb : Below wn.heap.size wn (wn.alloc (.cells #[.int .i64 0, .int .i64 0, .int .i64 0, .int .i64 0] 23)) := fb_alloc (Below.refl _ _) _
        exact hK' _ _ ⟨sl1, sc1, sl2, sc2, _, sp2, rfl, by simpa using i0, by simpa using i1, by simpa using i2, by simpa using i3, fun _ => ⟨wn.heap.size, rfl, iB.size, by rw [if_neg (by simp [hn6])]; exact ⟨by simp, by simp, by simp, by simp, by simp, fun i => by simp⟩⟩, fun h => (i5 (by simpa using h)).imp fun g ⟨h1, h2, h3⟩ => ⟨h1, h2, arr_ite h3 hb⟩, fun _ h5 => by obtain ⟨g, h1, _, h3⟩ := i5 (by simpa using h5); rw [h1]; intro e; injection e with e; injection e with e; injection e with e; exact absurd e (Nat.ne_of_gt (arr_ite_lt h3)), fb_call iB hb, by simp, by simpa using i57⟩
      · obtain rfl := Option.some.inj ho
        refine wpOp_step rfl (fun K' hK' => ?_)
        have hn6 : l 7 = false := by
          cases h : l 7 with
          | false => rfl
          | true => rw [i57 h] at hl; cases hl
        have I := Lib.hid (And.intro i0 (And.intro i1 (And.intro i2 (And.intro i3 (And.intro i4 (And.intro i5 (And.intro i6 (And.intro iB (And.intro i46 (And.intro i57 hn6))))))))))
        clear i0 i1 i2 i3 i4 i5 i6 iB i46 i57 haft hl hn6
        go_simp
        obtain ⟨i0, i1, i2, i3, i4, i5, i6, iB, i46, i57, hn6⟩ := I.out
        have hb : Below wn.heap.size wn (wn.alloc (.cells #[.int .i64 0, .int .i64 0, .int .i64 0, .int .i64 0] 23)) := fb_alloc (Below.refl _ _) _
        exact hK' _ _ ⟨sl1, sc1, sl2, sc2, sp1, _, rfl, by simpa using i0, by simpa using i1, by simpa using i2, by simpa using i3, fun h => (i4 (by simpa using h)).imp fun g ⟨h1, h2, h3⟩ => ⟨h1, h2, arr_ite h3 hb⟩, fun _ => ⟨wn.heap.size, rfl, iB.size, by rw [if_neg (by simp [hn6])]; exact ⟨by simp, by simp, by simp, by simp, by simp, fun i => by simp⟩⟩, fun h4 _ => by obtain ⟨g, h1, _, h3⟩ := i4 (by simpa using h4); rw [h1]; intro e; injection e with e; injection e with e; injection e with e; exact absurd e (Nat.ne_of_lt (arr_ite_lt h3)), fb_call iB hb, by simpa using i46, by simp⟩
      · obtain rfl := Option.some.inj ho
        have e4 : l 4 = true := haft ⟨4, .data⟩ (by simp) rfl
        have e5 : l 5 = true := haft ⟨5, .phase⟩ (by simp) rfl
        have e1 : l 1 = true := haft ⟨1, .data⟩ (by simp) rfl
        obtain ⟨g, rfl, hg, hz⟩ := i4 e4
        obtain ⟨g', rfl, hg', hz'⟩ := i5 e5
        obtain rfl := i1 e1
        rw [if_neg (by rw [hl]; exact Bool.false_ne_true)] at hz
        have hne : g' ≠ g := fun e => i6 e4 e5 (by rw [e])
        refine wpOp_step rfl (fun K' hK' => ?_)
        have I := Lib.hid (And.intro i0 (And.intro i1 (And.intro i2 (And.intro i3 (And.intro i6 (And.intro iB (And.intro i46 (And.intro i57 (And.intro hz' (And.intro hg (And.intro hg' (And.intro hne (And.intro e4 (And.intro e5 hz))))))))))))))
        obtain ⟨zl, z0, z1, z2, z3, zf⟩ := hz
        clear i0 i1 i2 i3 i4 i5 i6 iB i46 i57 haft hl hg hg' hz' hne e4 e5 e1
        go_simp
        obtain ⟨i0, i1, i2, i3, i6, iB, i46, i57, hz', hg, hg', hne, e4, e5, hz⟩ := I.out
        have hS := arr_store hz a b c d
        have hO := arr_store_ite (k := .i64) (g := g) hz' hne a b c d
        have hBl := bel_store iB hg (k := .i64) a b c d
        exact hK' _ _ ⟨sl1, _, sl2, _, _, _, rfl, by simpa using i0, by simp, by simpa using i2, by simpa using i3, fun _ => ⟨g, rfl, hg, by rw [if_pos (by simp)]; exact hS⟩, fun _ => ⟨g', rfl, hg', by simpa using hO⟩, fun _ _ => i6 e4 e5, hBl, fun _ => by simp [e4], fun _ => by simp [e5]⟩
      · obtain rfl := Option.some.inj ho
        have e4 : l 5 = true := haft ⟨5, .data⟩ (by simp) rfl
        have e5 : l 4 = true := haft ⟨4, .phase⟩ (by simp) rfl
        have e1 : l 3 = true := haft ⟨3, .data⟩ (by simp) rfl
        obtain ⟨g, rfl, hg, hz⟩ := i5 e4
        obtain ⟨g', rfl, hg', hz'⟩ := i4 e5
        obtain rfl := i3 e1
        rw [if_neg (by rw [hl]; exact Bool.false_ne_true)] at hz
        have hne : g' ≠ g := fun e => i6 e5 e4 (by rw [e])
        refine wpOp_step rfl (fun K' hK' => ?_)
        have I := Lib.hid (And.intro i0 (And.intro i1 (And.intro i2 (And.intro i3 (And.intro i6 (And.intro iB (And.intro i46 (And.intro i57 (And.intro hz' (And.intro hg (And.intro hg' (And.intro hne (And.intro e4 (And.intro e5 hz))))))))))))))
        obtain ⟨zl, z0, z1, z2, z3, zf⟩ := hz
        clear i0 i1 i2 i3 i4 i5 i6 iB i46 i57 haft hl hg hg' hz' hne e4 e5 e1
        go_simp
        obtain ⟨i0, i1, i2, i3, i6, iB, i46, i57, hz', hg, hg', hne, e4, e5, hz⟩ := I.out
        have hS := arr_store hz x y z u
        have hO := arr_store_ite (k := .i64) (g := g) hz' hne x y z u
        have hBl := bel_store iB hg (k := .i64) x y z u
        exact hK' _ _ ⟨sl1, _, sl2, _, _, _, rfl, by simpa using i0, by simpa using i1, by simpa using i2, by simp, fun _ => ⟨g', rfl, hg', by simpa using hO⟩, fun _ => ⟨g, rfl, hg, by rw [if_pos (by simp)]; exact hS⟩, fun _ _ => i6 e5 e4, hBl, fun _ => by simp [e5], fun _ => by simp [e4]⟩
      · simp at ho
    case hend =>
      intro l act wn hI hall
      obtain ⟨sl1, sc1, sl2, sc2, sp1, sp2, rfl, i0, i1, i2, i3, i4, i5, i6, iB, i46, i57⟩ := hI
      obtain ⟨g, rfl, hg, hz⟩ := i4 (hall 4 (by simp))
      obtain ⟨g', rfl, hg', hz'⟩ := i5 (hall 5 (by simp))
      rw [if_pos (hall 6 (by simp))] at hz
      rw [if_pos (hall 7 (by simp))] at hz'
      have hBn := fb_call hBB iB
      clear i0 i1 i2 i3 i4 i5 i6 i46 i57 hall
      go_wp2_with fail
      go_meet
      exact ⟨g, g', rfl, rfl, hz, hz', hBn⟩
  case rest =>
    obtain ⟨g1, g2, rfl, rfl, A1, A2, hB⟩ := hcut
    have HA := Lib.hid (And.intro A1 (And.intro A2 hB))
    obtain ⟨l1, c10, c11, c12, c13, f1⟩ := A1
    obtain ⟨l2, c20, c21, c22, c23, f2⟩ := A2
    clear hB
    go_wp2_with (go_at_call 8; refine (hpay.out _).mono ?_; rintro e w' ⟨rfl, v2, rfl⟩)
    obtain ⟨A1, A2, hB⟩ := HA.out
    clear HA l1 c10 c11 c12 c13 f1 l2 c20 c21 c22 c23 f2
    have hb : Below wc.heap.size wc ((lat wc v2).alloc (.cells #[.int .i64 a, .int .i64 b, .int .i64 c, .int .i64 d] 23)) := fb_alloc (fb_lat (Below.refl _ _) _) _
    have A3 : Arr ((lat wc v2).alloc (.cells #[.int .i64 a, .int .i64 b, .int .i64 c, .int .i64 d] 23)) (lat wc v2).heap.size .i64 a b c d := ⟨by simp, by simp, by simp, by simp, by simp, fun i => by simp⟩
    have B1 := A1.below hb
    have B2 := A2.below hb
    have hB2 := fb_call hB hb
    clear A1 A2 hB hb hpay
    generalize hW : ((lat wc v2).alloc (.cells #[.int .i64 a, .int .i64 b, .int .i64 c, .int .i64 d] 23)) = W1 at *
    clear hW
    generalize hg : (lat wc v2).heap.size = g3 at *
    clear hg
    obtain ⟨l1, c10, c11, c12, c13, f1⟩ := B1
    obtain ⟨l2, c20, c21, c22, c23, f2⟩ := B2
    obtain ⟨l3, c30, c31, c32, c33, f3⟩ := A3
    obtain ⟨a0, a1⟩ := bda.out
    obtain ⟨b0, b1⟩ := bdb.out
    obtain ⟨c0, c1⟩ := bdc.out
    obtain ⟨d0, d1⟩ := bdd.out
    obtain ⟨x0, x1⟩ := bdx.out
    obtain ⟨y0, y1⟩ := bdy.out
    obtain ⟨z0, z1⟩ := bdz.out
    obtain ⟨u0, u1⟩ := bdu.out
    go_loop [9, 10] (fun sm rr => ∃ r : Int, sm = .bool false ∧ 0 ≤ r ∧ r ≤ 13 ∧ rr = .int .i64 r) (fun _ rr => (13 - intOf rr).toNat)
    case atStart => exact ⟨0, rfl, by omega, by omega, rfl⟩
    case round =>
      obtain ⟨r, rfl, r0, r1, rfl⟩ := hrel
      by_cases hr : r ≤ a - x
      · go_wp2
        go_loop [9, 11] (fun sm gg => ∃ g : Int, sm = .bool false ∧ 0 ≤ g ∧ g ≤ 13 ∧ gg = .int .i64 g) (fun _ gg => (13 - intOf gg).toNat)
        case atStart => exact ⟨0, rfl, by omega, by omega, rfl⟩
        case round =>
          obtain ⟨g, rfl, g0, g9, rfl⟩ := hrel
          by_cases hg : g ≤ b - y
          · go_wp2
            go_loop [9, 12] (fun sm bb => ∃ k : Int, sm = .bool false ∧ 0 ≤ k ∧ k ≤ 13 ∧ bb = .int .i64 k) (fun _ bb => (13 - intOf bb).toNat)
            case atStart => exact ⟨0, rfl, by omega, by omega, rfl⟩
            case round =>
              obtain ⟨k, rfl, k0, k1, rfl⟩ := hrel
              by_cases hk : k ≤ c - z
              · have hgt : d < u - r - g - k := by have := hno.out; omega
                have hge : 0 ≤ u - r - g - k := by omega
                go_wp2
                go_round
                case rel => exact ⟨k + 1, rfl, by omega, by omega, rfl⟩
                case measure => simp [intOf]; omega
              · go_wp2
                go_round
                case rel => exact ⟨g + 1, rfl, by omega, by omega, rfl⟩
                case measure => simp [intOf]; omega
          · go_wp2
            go_round
            case rel => exact ⟨r + 1, rfl, by omega, by omega, rfl⟩
            case measure => simp [intOf]; omega
      · go_wp2_with (go_at_call 10; refine (hcan.out _).mono ?_; rintro e w' ⟨rfl, v3, rfl⟩)
        go_ret
        exact ⟨rfl, fb_lat hB2 _⟩
end Go.Proofs.Ythbbmkkkjbocaaa
