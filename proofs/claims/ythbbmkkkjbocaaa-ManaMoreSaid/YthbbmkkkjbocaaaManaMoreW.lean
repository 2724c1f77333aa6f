/- The walk of ManaMore, its callees by their contracts. No condition. -/
import Derived.Test.YthbbmkkkjbocaaaManaS
import Derived.Test.YthbbmkkkjbocaaaOpen
import Derived.Test.YthbbmkkkjbocaaaInv
import Derived.Test.YthbbmkkkjbocaaaQTail
namespace Go.Proofs.Ythbbmkkkjbocaaa
open Go.ChangeShapes Go.WideShapes Go.ChangeAt Go.RowKit

def StM (a b c d m0 m1 m2 m3 : Int) (k : Nat) (A B C D : Int) : Prop := (0 = k ∧ a = A ∧ b = B ∧ c = C ∧ d = D) ∨ (1 = k ∧ a + m0 = A ∧ b = B ∧ c = C ∧ d = D) ∨ (2 = k ∧ a + m0 = A ∧ b + m1 = B ∧ c = C ∧ d = D) ∨ (3 = k ∧ a + m0 = A ∧ b + m1 = B ∧ c + m2 = C ∧ d = D) ∨ (4 = k ∧ a + m0 = A ∧ b + m1 = B ∧ c + m2 = C ∧ d + m3 = D)

set_option maxHeartbeats 1000000 in
theorem more_case (a' b' c' d' x' y' z' u' m0 m1 m2 m3 a b c d x y z u : Int) (hs1 : Hid (∀ W, Calls Try.prog 15 #[b8 a' b' c' d'] W fun e w' => e = .returned (mana a b c d) ∧ ∃ o1 o2 : Obj, (W.alloc o1).alloc o2 = w')) (hs2 : Hid (∀ W, Calls Try.prog 15 #[b8 x' y' z' u'] W fun e w' => e = .returned (mana x y z u) ∧ ∃ o1 o2 : Obj, (W.alloc o1).alloc o2 = w')) (hadd0 : Hid (∀ W, Calls Try.prog 13 #[mana a b c d, .int .i64 0, .int .i64 m0] W fun e w' => e = .returned (mana (a + m0) b c d) ∧ Below W.heap.size W w')) (hadd1 : Hid (∀ W, Calls Try.prog 13 #[mana (a + m0) b c d, .int .i64 1, .int .i64 m1] W fun e w' => e = .returned (mana (a + m0) (b + m1) c d) ∧ Below W.heap.size W w')) (hadd2 : Hid (∀ W, Calls Try.prog 13 #[mana (a + m0) (b + m1) c d, .int .i64 2, .int .i64 m2] W fun e w' => e = .returned (mana (a + m0) (b + m1) (c + m2) d) ∧ Below W.heap.size W w')) (hadd3 : Hid (∀ W, Calls Try.prog 13 #[mana (a + m0) (b + m1) (c + m2) d, .int .i64 3, .int .i64 m3] W fun e w' => e = .returned (mana (a + m0) (b + m1) (c + m2) (d + m3)) ∧ Below W.heap.size W w')) (e0 : 0 ≤ m0 ∧ m0 ≤ 255) (e1 : 0 ≤ m1 ∧ m1 ≤ 255) (e2 : 0 ≤ m2 ∧ m2 ≤ 255) (e3 : 0 ≤ m3 ∧ m3 ≤ 255) (bda : Hid (0 ≤ a ∧ a ≤ 12)) (bdb : Hid (0 ≤ b ∧ b ≤ 12)) (bdc : Hid (0 ≤ c ∧ c ≤ 12)) (bdd : Hid (0 ≤ d ∧ d ≤ 12)) (hpay : (Hid (∀ W, Calls Try.prog 8 #[mana (a + m0) (b + m1) (c + m2) (d + m3), mana x y z u] W fun e w' => e = .returned (.tuple #[mana (a + m0) (b + m1) (c + m2) (d + m3), .int .i64 13]) ∧ ∃ u, lat W u = w') ∧ Hid (∀ W, Calls Try.prog 10 #[mana a b c d, mana x y z u] W fun e w' => e = .returned (.bool false) ∧ ∃ u, lat W u = w')) ∨ ∃ L0 L1 L2 L3 : Int, Hid (0 ≤ L0 ∧ L0 ≤ a + m0 ∧ 0 ≤ L1 ∧ L1 ≤ b + m1 ∧ 0 ≤ L2 ∧ L2 ≤ c + m2 ∧ 0 ≤ L3 ∧ L3 ≤ d + m3) ∧ Hid (∀ W, Calls Try.prog 8 #[mana (a + m0) (b + m1) (c + m2) (d + m3), mana x y z u] W fun e w' => e = .returned (.tuple #[mana L0 L1 L2 L3, .int .i64 0]) ∧ ∃ u, lat W u = w')) (hcan : Hid (∀ W, Calls Try.prog 10 #[mana a b c d, mana x y z u] W fun e w' => e = .returned (.bool (canB a b c d x y z u)) ∧ ∃ u, lat W u = w')) (w : World) :
    Calls Try.prog 6 #[b8 a' b' c' d', b8 x' y' z' u', b8 m0 m1 m2 m3] w fun e w' => e = .returned (.bool true) ∧ Below w.heap.size w w' := by
  go_enter Try.func6, Try.ntmps6
  go_wp2_with (go_at_call 12; refine (calls_lat (works_any _)).mono ?_; rintro e w' ⟨rfl, v1, rfl⟩)
  go_cut [7, 8, 16, 17, 18, 19] (fun s7 s8 _ _ _ _ wx => ∃ g1 g2 : Nat, s7 = .pointer (some ⟨g1, 0, none⟩) ∧ s8 = .pointer (some ⟨g2, 0, none⟩) ∧ Arr wx g1 .i64 a b c d ∧ Arr wx g2 .i64 x y z u ∧ Arr wx (w.heap.size + 1 + 1) .u8 m0 m1 m2 m3 ∧ Below w.heap.size w wx)
  case first =>
    have hM : Arr (lat (((w.alloc (.cells #[.int .u8 a', .int .u8 b', .int .u8 c', .int .u8 d'] 31)).alloc (.cells #[.int .u8 x', .int .u8 y', .int .u8 z', .int .u8 u'] 31)).alloc (.cells #[.int .u8 m0, .int .u8 m1, .int .u8 m2, .int .u8 m3] 31)) v1) (w.heap.size + 1 + 1) .u8 m0 m1 m2 m3 := ⟨by simp [go_sem], by simp [go_sem], by simp [go_sem], by simp [go_sem], by simp [go_sem], fun i => by simp [go_sem]⟩
    have hA : Arr (lat (((w.alloc (.cells #[.int .u8 a', .int .u8 b', .int .u8 c', .int .u8 d'] 31)).alloc (.cells #[.int .u8 x', .int .u8 y', .int .u8 z', .int .u8 u'] 31)).alloc (.cells #[.int .u8 m0, .int .u8 m1, .int .u8 m2, .int .u8 m3] 31)) v1) w.heap.size .u8 a' b' c' d' := ⟨by simp [go_sem], by simp [go_sem], by simp [go_sem], by simp [go_sem], by simp [go_sem], fun i => by simp [go_sem]⟩
    have hX : Arr (lat (((w.alloc (.cells #[.int .u8 a', .int .u8 b', .int .u8 c', .int .u8 d'] 31)).alloc (.cells #[.int .u8 x', .int .u8 y', .int .u8 z', .int .u8 u'] 31)).alloc (.cells #[.int .u8 m0, .int .u8 m1, .int .u8 m2, .int .u8 m3] 31)) v1) (w.heap.size + 1) .u8 x' y' z' u' := ⟨by simp [go_sem], by simp [go_sem], by simp [go_sem], by simp [go_sem], by simp [go_sem], fun i => by simp [go_sem]⟩
    have hBB : Below w.heap.size w (lat (((w.alloc (.cells #[.int .u8 a', .int .u8 b', .int .u8 c', .int .u8 d'] 31)).alloc (.cells #[.int .u8 x', .int .u8 y', .int .u8 z', .int .u8 u'] 31)).alloc (.cells #[.int .u8 m0, .int .u8 m1, .int .u8 m2, .int .u8 m3] 31)) v1) := (by repeat (first | exact Below.refl _ _ | refine fb_alloc ?_ _ | refine fb_lat ?_ _ | refine fb_drew ?_ | refine fb_drewN ?_ _))
    generalize (lat (((w.alloc (.cells #[.int .u8 a', .int .u8 b', .int .u8 c', .int .u8 d'] 31)).alloc (.cells #[.int .u8 x', .int .u8 y', .int .u8 z', .int .u8 u'] 31)).alloc (.cells #[.int .u8 m0, .int .u8 m1, .int .u8 m2, .int .u8 m3] 31)) v1) = W0 at *
    refine wp_region_inv (fun l act wn => ∃ sl1 sc1 sl2 sc2 sp1 sp2 : Value, act = ⟨#[b8 a' b' c' d', b8 x' y' z' u', b8 m0 m1 m2 m3, .pointer (some ⟨w.heap.size, 0, none⟩), .pointer (some ⟨w.heap.size + 1, 0, none⟩), .pointer (some ⟨w.heap.size + 1 + 1, 0, none⟩), .bool false, sp1, sp2, undef, undef, undef, undef, undef, .bool true, .bool false, sl1, sc1, sl2, sc2, undef, undef, undef, undef, undef, undef, undef, undef, undef, undef, undef, undef, undef, undef, undef, undef, undef, undef, undef, undef, undef, undef, undef, undef, undef, undef, undef, undef, undef, undef, undef, undef, undef, undef, undef, undef, undef, undef, undef, undef, undef, undef, undef, undef, undef, undef, undef, undef, undef, undef, undef, undef, undef, undef], []⟩ ∧ (l 0 = true → sl1 = b8 a' b' c' d') ∧ (l 1 = true → sc1 = mana a b c d) ∧ (l 2 = true → sl2 = b8 x' y' z' u') ∧ (l 3 = true → sc2 = mana x y z u) ∧ (l 4 = true → ∃ g, sp1 = .pointer (some ⟨g, 0, none⟩) ∧ W0.heap.size ≤ g ∧ (if l 6 = true then Arr wn g .i64 a b c d else Arr wn g .i64 0 0 0 0)) ∧ (l 5 = true → ∃ g, sp2 = .pointer (some ⟨g, 0, none⟩) ∧ W0.heap.size ≤ g ∧ (if l 7 = true then Arr wn g .i64 x y z u else Arr wn g .i64 0 0 0 0)) ∧ (l 4 = true → l 5 = true → sp1 ≠ sp2) ∧ Below W0.heap.size W0 wn ∧ (l 6 = true → l 4 = true) ∧ (l 7 = true → l 5 = true)) (by kernel_rfl) (acB_spec (by kernel_rfl)) ?h0 ?hstep ?hend
    case h0 => exact ⟨undef, undef, undef, undef, undef, undef, rfl, by simp, by simp, by simp, by simp, by simp, by simp, by simp, ⟨rfl, rfl, rfl, Nat.le_refl _, fun _ _ => rfl⟩, by simp, by simp⟩
    case hstep =>
      intro i o ho l act wn hI hl haft
      obtain ⟨sl1, sc1, sl2, sc2, sp1, sp2, rfl, i0, i1, i2, i3, i4, i5, i6, iB, i46, i57⟩ := hI
      obtain ⟨ln0, n0, n1, n2, n3, nf⟩ := hA.below iB
      obtain ⟨lx0, x0, x1, x2, x3, xf⟩ := hX.below iB
      rcases i with _ | _ | _ | _ | _ | _ | _ | _ | i
      · obtain rfl := Option.some.inj ho
        refine wpOp_step rfl (fun K' hK' => ?_)
        have I := Lib.hid (And.intro i0 (And.intro i1 (And.intro i2 (And.intro i3 (And.intro i4 (And.intro i5 (And.intro i6 (And.intro iB (And.intro i46 i57)))))))))
        clear i0 i1 i2 i3 i4 i5 i6 iB i46 i57 haft hl
        go_simp
        obtain ⟨i0, i1, i2, i3, i4, i5, i6, iB, i46, i57⟩ := I.out
        exact hK' _ _ ⟨_, sc1, sl2, sc2, sp1, sp2, rfl, by simp, by simpa using i1, by simpa using i2, by simpa using i3, by simpa using i4, by simpa using i5, by simpa using i6, iB, by simpa using i46, by simpa using i57⟩
      · obtain rfl := Option.some.inj ho
        have e0 : l 0 = true := haft ⟨0, .data⟩ (by simp) rfl
        obtain rfl := i0 e0
        refine wpOp_step rfl (fun K' hK' => ?_)
        have I := Lib.hid (And.intro i0 (And.intro i1 (And.intro i2 (And.intro i3 (And.intro i4 (And.intro i5 (And.intro i6 (And.intro iB (And.intro i46 i57)))))))))
        clear i0 i1 i2 i3 i4 i5 i6 iB i46 i57 haft hl e0
        go_simp
        refine (hs1.out _).mono ?_; rintro e w' ⟨rfl, o1, o2, rfl⟩
        obtain ⟨i0, i1, i2, i3, i4, i5, i6, iB, i46, i57⟩ := I.out
        have hb : Below wn.heap.size wn ((wn.alloc o1).alloc o2) := fb_alloc (fb_alloc (Below.refl _ _) _) _
        exact hK' _ _ ⟨_, _, sl2, sc2, sp1, sp2, rfl, by simp, by simp, by simpa using i2, by simpa using i3, fun h => (i4 (by simpa using h)).imp fun g ⟨h1, h2, h3⟩ => ⟨h1, h2, arr_ite h3 hb⟩, fun h => (i5 (by simpa using h)).imp fun g ⟨h1, h2, h3⟩ => ⟨h1, h2, arr_ite h3 hb⟩, by simpa using i6, fb_call iB hb, by simpa using i46, by simpa using i57⟩
      · obtain rfl := Option.some.inj ho
        refine wpOp_step rfl (fun K' hK' => ?_)
        have I := Lib.hid (And.intro i0 (And.intro i1 (And.intro i2 (And.intro i3 (And.intro i4 (And.intro i5 (And.intro i6 (And.intro iB (And.intro i46 i57)))))))))
        clear i0 i1 i2 i3 i4 i5 i6 iB i46 i57 haft hl
        go_simp
        obtain ⟨i0, i1, i2, i3, i4, i5, i6, iB, i46, i57⟩ := I.out
        exact hK' _ _ ⟨sl1, sc1, _, sc2, sp1, sp2, rfl, by simpa using i0, by simpa using i1, by simp, by simpa using i3, by simpa using i4, by simpa using i5, by simpa using i6, iB, by simpa using i46, by simpa using i57⟩
      · obtain rfl := Option.some.inj ho
        have e0 : l 2 = true := haft ⟨2, .data⟩ (by simp) rfl
        obtain rfl := i2 e0
        refine wpOp_step rfl (fun K' hK' => ?_)
        have I := Lib.hid (And.intro i0 (And.intro i1 (And.intro i2 (And.intro i3 (And.intro i4 (And.intro i5 (And.intro i6 (And.intro iB (And.intro i46 i57)))))))))
        clear i0 i1 i2 i3 i4 i5 i6 iB i46 i57 haft hl e0
        go_simp
        refine (hs2.out _).mono ?_; rintro e w' ⟨rfl, o1, o2, rfl⟩
        obtain ⟨i0, i1, i2, i3, i4, i5, i6, iB, i46, i57⟩ := I.out
        have hb : Below wn.heap.size wn ((wn.alloc o1).alloc o2) := fb_alloc (fb_alloc (Below.refl _ _) _) _
        exact hK' _ _ ⟨sl1, sc1, _, _, sp1, sp2, rfl, by simpa using i0, by simpa using i1, by simp, by simp, fun h => (i4 (by simpa using h)).imp fun g ⟨h1, h2, h3⟩ => ⟨h1, h2, arr_ite h3 hb⟩, fun h => (i5 (by simpa using h)).imp fun g ⟨h1, h2, h3⟩ => ⟨h1, h2, arr_ite h3 hb⟩, by simpa using i6, fb_call iB hb, by simpa using i46, by simpa using i57⟩
      · obtain rfl := Option.some.inj ho
        refine wpOp_step rfl (fun K' hK' => ?_)
        have hn6 : l 6 = false := by
          cases h : l 6 with
          | false => rfl
          | true => rw [i46 h] at hl; cases hl
        have I := Lib.hid (And.intro i0 (And.intro i1 (And.intro i2 (And.intro i3 (And.intro i4 (And.intro i5 (And.intro i6 (And.intro iB (And.intro i46 (And.intro i57 hn6))))))))))
        clear i0 i1 i2 i3 i4 i5 i6 iB i46 i57 haft hl hn6
        go_simp
        obtain ⟨i0, i1, i2, i3, i4, i5, i6, iB, i46, i57, hn6⟩ := I.out
        have hb : Below wn.heap.size wn (wn.alloc (.cells #[.int .i64 0, .int .i64 0, .int .i64 0, .int .i64 0] 23)) := fb_alloc (Below.refl _ _) _
        exact hK' _ _ ⟨sl1, sc1, sl2, sc2, _, sp2, rfl, by simpa using i0, by simpa using i1, by simpa using i2, by simpa using i3, fun _ => ⟨wn.heap.size, rfl, iB.size, by rw [if_neg (by simp [hn6])]; exact ⟨by simp, by simp, by simp, by simp, by simp, fun i => by simp⟩⟩, fun h => (i5 (by simpa using h)).imp fun g ⟨h1, h2, h3⟩ => ⟨h1, h2, arr_ite h3 hb⟩, fun _ h5 => by obtain ⟨g, h1, _, h3⟩ := i5 (by simpa using h5); rw [h1]; intro e; injection e with e; injection e with e; injection e with e; exact absurd e (Nat.ne_of_gt (arr_ite_lt h3)), fb_call iB hb, by simp, by simpa using i57⟩
      · obtain rfl := Option.some.inj ho
        refine wpOp_step rfl (fun K' hK' => ?_)
        have hn6 : l 7 = false := by
          cases h : l 7 with
          | false => rfl
          | true => rw [i57 h] at hl; cases hl
        have I := Lib.hid (And.intro i0 (And.intro i1 (And.intro i2 (And.intro i3 (And.intro i4 (And.intro i5 (And.intro i6 (And.intro iB (And.intro i46 (And.intro i57 hn6))))))))))
        clear i0 i1 i2 i3 i4 i5 i6 iB i46 i57 haft hl hn6
        go_simp
        obtain ⟨i0, i1, i2, i3, i4, i5, i6, iB, i46, i57, hn6⟩ := I.out
        have hb : Below wn.heap.size wn (wn.alloc (.cells #[.int .i64 0, .int .i64 0, .int .i64 0, .int .i64 0] 23)) := fb_alloc (Below.refl _ _) _
        exact hK' _ _ ⟨sl1, sc1, sl2, sc2, sp1, _, rfl, by simpa using i0, by simpa using i1, by simpa using i2, by simpa using i3, fun h => (i4 (by simpa using h)).imp fun g ⟨h1, h2, h3⟩ => ⟨h1, h2, arr_ite h3 hb⟩, fun _ => ⟨wn.heap.size, rfl, iB.size, by rw [if_neg (by simp [hn6])]; exact ⟨by simp, by simp, by simp, by simp, by simp, fun i => by simp⟩⟩, fun h4 _ => by obtain ⟨g, h1, _, h3⟩ := i4 (by simpa using h4); rw [h1]; intro e; injection e with e; injection e with e; injection e with e; exact absurd e (Nat.ne_of_lt (arr_ite_lt h3)), fb_call iB hb, by simpa using i46, by simp⟩
      · obtain rfl := Option.some.inj ho
        have e4 : l 4 = true := haft ⟨4, .data⟩ (by simp) rfl
        have e5 : l 5 = true := haft ⟨5, .phase⟩ (by simp) rfl
        have e1 : l 1 = true := haft ⟨1, .data⟩ (by simp) rfl
        obtain ⟨g, rfl, hg, hz⟩ := i4 e4
        obtain ⟨g', rfl, hg', hz'⟩ := i5 e5
        obtain rfl := i1 e1
        rw [if_neg (by rw [hl]; exact Bool.false_ne_true)] at hz
        have hne : g' ≠ g := fun e => i6 e4 e5 (by rw [e])
        refine wpOp_step rfl (fun K' hK' => ?_)
        have I := Lib.hid (And.intro i0 (And.intro i1 (And.intro i2 (And.intro i3 (And.intro i6 (And.intro iB (And.intro i46 (And.intro i57 (And.intro hz' (And.intro hg (And.intro hg' (And.intro hne (And.intro e4 (And.intro e5 hz))))))))))))))
        obtain ⟨zl, z0, z1, z2, z3, zf⟩ := hz
        clear i0 i1 i2 i3 i4 i5 i6 iB i46 i57 haft hl hg hg' hz' hne e4 e5 e1
        go_simp
        obtain ⟨i0, i1, i2, i3, i6, iB, i46, i57, hz', hg, hg', hne, e4, e5, hz⟩ := I.out
        have hS := arr_store hz a b c d
        have hO := arr_store_ite (k := .i64) (g := g) hz' hne a b c d
        have hBl := bel_store iB hg (k := .i64) a b c d
        exact hK' _ _ ⟨sl1, _, sl2, _, _, _, rfl, by simpa using i0, by simp, by simpa using i2, by simpa using i3, fun _ => ⟨g, rfl, hg, by rw [if_pos (by simp)]; exact hS⟩, fun _ => ⟨g', rfl, hg', by simpa using hO⟩, fun _ _ => i6 e4 e5, hBl, fun _ => by simp [e4], fun _ => by simp [e5]⟩
      · obtain rfl := Option.some.inj ho
        have e4 : l 5 = true := haft ⟨5, .data⟩ (by simp) rfl
        have e5 : l 4 = true := haft ⟨4, .phase⟩ (by simp) rfl
        have e1 : l 3 = true := haft ⟨3, .data⟩ (by simp) rfl
        obtain ⟨g, rfl, hg, hz⟩ := i5 e4
        obtain ⟨g', rfl, hg', hz'⟩ := i4 e5
        obtain rfl := i3 e1
        rw [if_neg (by rw [hl]; exact Bool.false_ne_true)] at hz
        have hne : g' ≠ g := fun e => i6 e5 e4 (by rw [e])
        refine wpOp_step rfl (fun K' hK' => ?_)
        have I := Lib.hid (And.intro i0 (And.intro i1 (And.intro i2 (And.intro i3 (And.intro i6 (And.intro iB (And.intro i46 (And.intro i57 (And.intro hz' (And.intro hg (And.intro hg' (And.intro hne (And.intro e4 (And.intro e5 hz))))))))))))))
        obtain ⟨zl, z0, z1, z2, z3, zf⟩ := hz
        clear i0 i1 i2 i3 i4 i5 i6 iB i46 i57 haft hl hg hg' hz' hne e4 e5 e1
        go_simp
        obtain ⟨i0, i1, i2, i3, i6, iB, i46, i57, hz', hg, hg', hne, e4, e5, hz⟩ := I.out
        have hS := arr_store hz x y z u
        have hO := arr_store_ite (k := .i64) (g := g) hz' hne x y z u
        have hBl := bel_store iB hg (k := .i64) x y z u
        exact hK' _ _ ⟨sl1, _, sl2, _, _, _, rfl, by simpa using i0, by simpa using i1, by simpa using i2, by simp, fun _ => ⟨g', rfl, hg', by simpa using hO⟩, fun _ => ⟨g, rfl, hg, by rw [if_pos (by simp)]; exact hS⟩, fun _ _ => i6 e5 e4, hBl, fun _ => by simp [e5], fun _ => by simp [e4]⟩
      · simp at ho
    case hend =>
      intro l act wn hI hall
      obtain ⟨sl1, sc1, sl2, sc2, sp1, sp2, rfl, i0, i1, i2, i3, i4, i5, i6, iB, i46, i57⟩ := hI
      obtain ⟨g, rfl, hg, hz⟩ := i4 (hall 4 (by simp))
      obtain ⟨g', rfl, hg', hz'⟩ := i5 (hall 5 (by simp))
      rw [if_pos (hall 6 (by simp))] at hz
      rw [if_pos (hall 7 (by simp))] at hz'
      have hMn := hM.below iB
      have hBn := fb_call hBB iB
      clear i0 i1 i2 i3 i4 i5 i6 i46 i57 hall
      go_wp2_with fail
      go_meet
      exact ⟨g, g', rfl, rfl, hz, hz', hMn, hBn⟩
  case rest =>
    obtain ⟨g1, g2, rfl, rfl, A1, A2, A3, hB⟩ := hcut
    have hA := Lib.hid (And.intro A1 (And.intro A2 (And.intro A3 hB)))
    obtain ⟨al, a0, a1, a2, a3, af⟩ := A1
    clear A2 A3 hB
    go_wp2
    obtain ⟨A1, A2, A3, hB⟩ := hA.out
    have hz := hB.size
    have hs0 : Below wc.heap.size wc (wc.alloc (.cells #[.int .i64 a, .int .i64 b, .int .i64 c, .int .i64 d] 23)) := fb_alloc (Below.refl _ _) _
    have A4 : Arr (wc.alloc (.cells #[.int .i64 a, .int .i64 b, .int .i64 c, .int .i64 d] 23)) wc.heap.size .i64 a b c d := ⟨by simp, by simp, by simp, by simp, by simp, fun i => by simp⟩
    have A10 := A1.below hs0
    have A20 := A2.below hs0
    have A30 := A3.below hs0
    have hB0 := fb_call hB hs0
    have n1 : g1 ≠ wc.heap.size := Nat.ne_of_lt A1.lt
    have n2 : g2 ≠ wc.heap.size := Nat.ne_of_lt A2.lt
    have n3 : w.heap.size + 1 + 1 ≠ wc.heap.size := Nat.ne_of_lt A3.lt
    have HN := Lib.hid (And.intro n1 (And.intro n2 (And.intro n3 (And.intro hB.size (And.intro A4 (And.intro A10 (And.intro A20 (And.intro A30 hB0))))))))
    clear n1 n2 n3 hz hs0 A4 A10 A20 A30 hB0 A1 A2 A3 hB hA al a0 a1 a2 a3 af
    go_loopw [10] (fun kk wr => ∃ (k : Nat) (A B C D : Int), StM a b c d m0 m1 m2 m3 k A B C D ∧ kk = .int .i64 k ∧ Arr wr g1 .i64 a b c d ∧ Arr wr g2 .i64 x y z u ∧ Arr wr (w.heap.size + 1 + 1) .u8 m0 m1 m2 m3 ∧ Arr wr wc.heap.size .i64 A B C D ∧ Below w.heap.size w wr) (fun kk _ => 4 - (intOf kk).toNat)
    case atStart =>
      obtain ⟨n1, n2, n3, hz, A4, A10, A20, A30, hB0⟩ := HN.out
      exact ⟨0, a, b, c, d, .inl ⟨rfl, rfl, rfl, rfl, rfl⟩, rfl, A10, A20, A30, A4, hB0⟩
    case round =>
      obtain ⟨k, A, B, C, D, hst, rfl, A1, A2, A3, A4, hB⟩ := hrel
      obtain ⟨n1, n2, n3, hz, _⟩ := HN.out
      rcases hst with ⟨rfl, rfl, rfl, rfl, rfl⟩ | ⟨rfl, rfl, rfl, rfl, rfl⟩ | ⟨rfl, rfl, rfl, rfl, rfl⟩ | ⟨rfl, rfl, rfl, rfl, rfl⟩ | ⟨rfl, rfl, rfl, rfl, rfl⟩
      · obtain ⟨l1, c10, c11, c12, c13, f1⟩ := A1
        obtain ⟨l3, c30, c31, c32, c33, f3⟩ := A3
        obtain ⟨l4, c40, c41, c42, c43, f4⟩ := A4
        have HA := Lib.hid (And.intro A2 (And.intro hB (And.intro hz (And.intro n1 (And.intro n2 n3)))))
        clear A2 hB hz n1 n2 n3
        go_wp2
        refine wp_region_lat_tail 7 (by kernel_rfl) (by kernel_rfl) ?_
        simp only [List.take_succ_cons, List.take_zero, List.drop_succ_cons, List.drop_zero]
        repeat (go_big_quiet_step (first | (go_at_call 13; exact quiet_lat (hadd0.out _))))
        refine wpQuiet_nil ?_
        intro _ hw'
        obtain ⟨nu, hw''⟩ := hw'
        subst hw''
        go_wp2
        obtain ⟨A2, hB, hz, n1, n2, n3⟩ := HA.out
        have hb := bel_lat0 wr nu
        have A1 : Arr wr g1 .i64 a b c d := ⟨l1, c10, c11, c12, c13, f1⟩
        have A3 : Arr wr (w.heap.size + 1 + 1) .u8 m0 m1 m2 m3 := ⟨l3, c30, c31, c32, c33, f3⟩
        have A4 : Arr wr wc.heap.size .i64 a b c d := ⟨l4, c40, c41, c42, c43, f4⟩
        have B1 := arr_store_other (k := .i64) (A1.below hb) n1 (a + m0) b c d
        have B2 := arr_store_other (k := .i64) (A2.below hb) n2 (a + m0) b c d
        have B3 := arr_store_other (k := .i64) (A3.below hb) n3 (a + m0) b c d
        have B4 := arr_store (A4.below hb) (a + m0) b c d
        have hB2 := bel_store (g := wc.heap.size) (k := .i64) (fb_call hB hb) hz (a + m0) b c d
        clear c10 c11 c12 c13 c30 c31 c32 c33 c40 c41 c42 c43 f1 f3 f4 hb A1 A2 A3 A4 hB
        obtain ⟨W2, hW⟩ : ∃ W2, store4 (lat wr nu) wc.heap.size .i64 (a + m0) b c d = W2 := ⟨_, rfl⟩
        rw [hW] at B1 B2 B3 B4 hB2
        simp only [store4] at hW
        rw [hW]
        have HB := Lib.hid (And.intro B1 (And.intro B2 (And.intro B3 (And.intro B4 hB2))))
        obtain ⟨l1', c10, c11, c12, c13, f1⟩ := B1
        obtain ⟨l3', c30, c31, c32, c33, f3⟩ := B3
        obtain ⟨l4', c40, c41, c42, c43, f4⟩ := B4
        obtain ⟨q0, q1⟩ := e0
        obtain ⟨q2, q3⟩ := bda.out
        clear B2 hB2 hz n1 n2 n3 hW l1 l3 l4 HA
        go_quiet (fail)
        go_wp2
        obtain ⟨B1, B2, B3, B4, hB2⟩ := HB.out
        have hd := bel_drewN (Below.refl W2.heap.size W2) nq
        go_roundw
        case rel => exact ⟨1, _, _, _, _, Or.inr (Or.inl ⟨rfl, rfl, rfl, rfl, rfl⟩), rfl, B1.below hd, B2.below hd, B3.below hd, B4.below hd, fb_call hB2 hd⟩
        case measure => simp [intOf]
      · obtain ⟨l1, c10, c11, c12, c13, f1⟩ := A1
        obtain ⟨l3, c30, c31, c32, c33, f3⟩ := A3
        obtain ⟨l4, c40, c41, c42, c43, f4⟩ := A4
        have HA := Lib.hid (And.intro A2 (And.intro hB (And.intro hz (And.intro n1 (And.intro n2 n3)))))
        clear A2 hB hz n1 n2 n3
        go_wp2
        refine wp_region_lat_tail 7 (by kernel_rfl) (by kernel_rfl) ?_
        simp only [List.take_succ_cons, List.take_zero, List.drop_succ_cons, List.drop_zero]
        repeat (go_big_quiet_step (first | (go_at_call 13; exact quiet_lat (hadd1.out _))))
        refine wpQuiet_nil ?_
        intro _ hw'
        obtain ⟨nu, hw''⟩ := hw'
        subst hw''
        go_wp2
        obtain ⟨A2, hB, hz, n1, n2, n3⟩ := HA.out
        have hb := bel_lat0 wr nu
        have A1 : Arr wr g1 .i64 a b c d := ⟨l1, c10, c11, c12, c13, f1⟩
        have A3 : Arr wr (w.heap.size + 1 + 1) .u8 m0 m1 m2 m3 := ⟨l3, c30, c31, c32, c33, f3⟩
        have A4 : Arr wr wc.heap.size .i64 (a + m0) b c d := ⟨l4, c40, c41, c42, c43, f4⟩
        have B1 := arr_store_other (k := .i64) (A1.below hb) n1 (a + m0) (b + m1) c d
        have B2 := arr_store_other (k := .i64) (A2.below hb) n2 (a + m0) (b + m1) c d
        have B3 := arr_store_other (k := .i64) (A3.below hb) n3 (a + m0) (b + m1) c d
        have B4 := arr_store (A4.below hb) (a + m0) (b + m1) c d
        have hB2 := bel_store (g := wc.heap.size) (k := .i64) (fb_call hB hb) hz (a + m0) (b + m1) c d
        clear c10 c11 c12 c13 c30 c31 c32 c33 c40 c41 c42 c43 f1 f3 f4 hb A1 A2 A3 A4 hB
        obtain ⟨W2, hW⟩ : ∃ W2, store4 (lat wr nu) wc.heap.size .i64 (a + m0) (b + m1) c d = W2 := ⟨_, rfl⟩
        rw [hW] at B1 B2 B3 B4 hB2
        simp only [store4] at hW
        rw [hW]
        have HB := Lib.hid (And.intro B1 (And.intro B2 (And.intro B3 (And.intro B4 hB2))))
        obtain ⟨l1', c10, c11, c12, c13, f1⟩ := B1
        obtain ⟨l3', c30, c31, c32, c33, f3⟩ := B3
        obtain ⟨l4', c40, c41, c42, c43, f4⟩ := B4
        obtain ⟨q0, q1⟩ := e1
        obtain ⟨q2, q3⟩ := bdb.out
        clear B2 hB2 hz n1 n2 n3 hW l1 l3 l4 HA
        go_quiet (fail)
        go_wp2
        obtain ⟨B1, B2, B3, B4, hB2⟩ := HB.out
        have hd := bel_drewN (Below.refl W2.heap.size W2) nq
        go_roundw
        case rel => exact ⟨2, _, _, _, _, Or.inr (Or.inr (Or.inl ⟨rfl, rfl, rfl, rfl, rfl⟩)), rfl, B1.below hd, B2.below hd, B3.below hd, B4.below hd, fb_call hB2 hd⟩
        case measure => simp [intOf]
      · obtain ⟨l1, c10, c11, c12, c13, f1⟩ := A1
        obtain ⟨l3, c30, c31, c32, c33, f3⟩ := A3
        obtain ⟨l4, c40, c41, c42, c43, f4⟩ := A4
        have HA := Lib.hid (And.intro A2 (And.intro hB (And.intro hz (And.intro n1 (And.intro n2 n3)))))
        clear A2 hB hz n1 n2 n3
        go_wp2
        refine wp_region_lat_tail 7 (by kernel_rfl) (by kernel_rfl) ?_
        simp only [List.take_succ_cons, List.take_zero, List.drop_succ_cons, List.drop_zero]
        repeat (go_big_quiet_step (first | (go_at_call 13; exact quiet_lat (hadd2.out _))))
        refine wpQuiet_nil ?_
        intro _ hw'
        obtain ⟨nu, hw''⟩ := hw'
        subst hw''
        go_wp2
        obtain ⟨A2, hB, hz, n1, n2, n3⟩ := HA.out
        have hb := bel_lat0 wr nu
        have A1 : Arr wr g1 .i64 a b c d := ⟨l1, c10, c11, c12, c13, f1⟩
        have A3 : Arr wr (w.heap.size + 1 + 1) .u8 m0 m1 m2 m3 := ⟨l3, c30, c31, c32, c33, f3⟩
        have A4 : Arr wr wc.heap.size .i64 (a + m0) (b + m1) c d := ⟨l4, c40, c41, c42, c43, f4⟩
        have B1 := arr_store_other (k := .i64) (A1.below hb) n1 (a + m0) (b + m1) (c + m2) d
        have B2 := arr_store_other (k := .i64) (A2.below hb) n2 (a + m0) (b + m1) (c + m2) d
        have B3 := arr_store_other (k := .i64) (A3.below hb) n3 (a + m0) (b + m1) (c + m2) d
        have B4 := arr_store (A4.below hb) (a + m0) (b + m1) (c + m2) d
        have hB2 := bel_store (g := wc.heap.size) (k := .i64) (fb_call hB hb) hz (a + m0) (b + m1) (c + m2) d
        clear c10 c11 c12 c13 c30 c31 c32 c33 c40 c41 c42 c43 f1 f3 f4 hb A1 A2 A3 A4 hB
        obtain ⟨W2, hW⟩ : ∃ W2, store4 (lat wr nu) wc.heap.size .i64 (a + m0) (b + m1) (c + m2) d = W2 := ⟨_, rfl⟩
        rw [hW] at B1 B2 B3 B4 hB2
        simp only [store4] at hW
        rw [hW]
        have HB := Lib.hid (And.intro B1 (And.intro B2 (And.intro B3 (And.intro B4 hB2))))
        obtain ⟨l1', c10, c11, c12, c13, f1⟩ := B1
        obtain ⟨l3', c30, c31, c32, c33, f3⟩ := B3
        obtain ⟨l4', c40, c41, c42, c43, f4⟩ := B4
        obtain ⟨q0, q1⟩ := e2
        obtain ⟨q2, q3⟩ := bdc.out
        clear B2 hB2 hz n1 n2 n3 hW l1 l3 l4 HA
        go_quiet (fail)
        go_wp2
        obtain ⟨B1, B2, B3, B4, hB2⟩ := HB.out
        have hd := bel_drewN (Below.refl W2.heap.size W2) nq
        go_roundw
        case rel => exact ⟨3, _, _, _, _, Or.inr (Or.inr (Or.inr (Or.inl ⟨rfl, rfl, rfl, rfl, rfl⟩))), rfl, B1.below hd, B2.below hd, B3.below hd, B4.below hd, fb_call hB2 hd⟩
        case measure => simp [intOf]
      · obtain ⟨l1, c10, c11, c12, c13, f1⟩ := A1
        obtain ⟨l3, c30, c31, c32, c33, f3⟩ := A3
        obtain ⟨l4, c40, c41, c42, c43, f4⟩ := A4
        have HA := Lib.hid (And.intro A2 (And.intro hB (And.intro hz (And.intro n1 (And.intro n2 n3)))))
        clear A2 hB hz n1 n2 n3
        go_wp2
        refine wp_region_lat_tail 7 (by kernel_rfl) (by kernel_rfl) ?_
        simp only [List.take_succ_cons, List.take_zero, List.drop_succ_cons, List.drop_zero]
        repeat (go_big_quiet_step (first | (go_at_call 13; exact quiet_lat (hadd3.out _))))
        refine wpQuiet_nil ?_
        intro _ hw'
        obtain ⟨nu, hw''⟩ := hw'
        subst hw''
        go_wp2
        obtain ⟨A2, hB, hz, n1, n2, n3⟩ := HA.out
        have hb := bel_lat0 wr nu
        have A1 : Arr wr g1 .i64 a b c d := ⟨l1, c10, c11, c12, c13, f1⟩
        have A3 : Arr wr (w.heap.size + 1 + 1) .u8 m0 m1 m2 m3 := ⟨l3, c30, c31, c32, c33, f3⟩
        have A4 : Arr wr wc.heap.size .i64 (a + m0) (b + m1) (c + m2) d := ⟨l4, c40, c41, c42, c43, f4⟩
        have B1 := arr_store_other (k := .i64) (A1.below hb) n1 (a + m0) (b + m1) (c + m2) (d + m3)
        have B2 := arr_store_other (k := .i64) (A2.below hb) n2 (a + m0) (b + m1) (c + m2) (d + m3)
        have B3 := arr_store_other (k := .i64) (A3.below hb) n3 (a + m0) (b + m1) (c + m2) (d + m3)
        have B4 := arr_store (A4.below hb) (a + m0) (b + m1) (c + m2) (d + m3)
        have hB2 := bel_store (g := wc.heap.size) (k := .i64) (fb_call hB hb) hz (a + m0) (b + m1) (c + m2) (d + m3)
        clear c10 c11 c12 c13 c30 c31 c32 c33 c40 c41 c42 c43 f1 f3 f4 hb A1 A2 A3 A4 hB
        obtain ⟨W2, hW⟩ : ∃ W2, store4 (lat wr nu) wc.heap.size .i64 (a + m0) (b + m1) (c + m2) (d + m3) = W2 := ⟨_, rfl⟩
        rw [hW] at B1 B2 B3 B4 hB2
        simp only [store4] at hW
        rw [hW]
        have HB := Lib.hid (And.intro B1 (And.intro B2 (And.intro B3 (And.intro B4 hB2))))
        obtain ⟨l1', c10, c11, c12, c13, f1⟩ := B1
        obtain ⟨l3', c30, c31, c32, c33, f3⟩ := B3
        obtain ⟨l4', c40, c41, c42, c43, f4⟩ := B4
        obtain ⟨q0, q1⟩ := e3
        obtain ⟨q2, q3⟩ := bdd.out
        clear B2 hB2 hz n1 n2 n3 hW l1 l3 l4 HA
        go_quiet (fail)
        go_wp2
        obtain ⟨B1, B2, B3, B4, hB2⟩ := HB.out
        have hd := bel_drewN (Below.refl W2.heap.size W2) nq
        go_roundw
        case rel => exact ⟨4, _, _, _, _, Or.inr (Or.inr (Or.inr (Or.inr (⟨rfl, rfl, rfl, rfl, rfl⟩)))), rfl, B1.below hd, B2.below hd, B3.below hd, B4.below hd, fb_call hB2 hd⟩
        case measure => simp [intOf]
      · obtain ⟨l4, c40, c41, c42, c43, f4⟩ := A4
        obtain ⟨l2, c20, c21, c22, c23, f2⟩ := A2
        have HA := Lib.hid (And.intro A1 (And.intro A3 (And.intro hB (And.intro hz (And.intro n1 (And.intro n2 n3))))))
        obtain ⟨l1, c10, c11, c12, c13, f1⟩ := A1
        clear A3 hB hz n1 n2 n3
        rcases hpay with ⟨hc1, hc2⟩ | ⟨L0, L1, L2, L3, hb, hc1⟩
        · obtain ⟨p0, p1⟩ := bda.out
          obtain ⟨p2, p3⟩ := bdb.out
          obtain ⟨p4, p5⟩ := bdc.out
          obtain ⟨p6, p7⟩ := bdd.out
          have q0 : 0 ≤ a + m0 := by omega
          have q1 : 0 ≤ b + m1 := by omega
          have q2 : 0 ≤ c + m2 := by omega
          have q3 : 0 ≤ d + m3 := by omega
          clear p0 p1 p2 p3 p4 p5 p6 p7
          go_wp2_with (first | (go_at_call 8; refine (hc1.out _).mono ?_; rintro e w' ⟨rfl, v2, rfl⟩) | (go_at_call 10; refine (hc2.out _).mono ?_; rintro e w' ⟨rfl, v3, rfl⟩))
          refine wp_loop_rounds 5 ?_
          rw [rounds_succ]
          go_wp2
          go_quiet (fail)
          go_wp2
          rw [rounds_succ]
          go_wp2
          go_quiet (fail)
          go_wp2
          rw [rounds_succ]
          go_wp2
          go_quiet (fail)
          go_wp2
          rw [rounds_succ]
          go_wp2
          go_quiet (fail)
          go_wp2
          rw [rounds_succ]
          go_wp2
          go_ret
          obtain ⟨A1, A3, hB, hz, n1, n2, n3⟩ := HA.out
          refine ⟨rfl, fb_call hB ?_⟩
          repeat (first | exact Below.refl _ _ | refine fb_alloc ?_ _ | refine fb_lat ?_ _ | refine fb_drew ?_ | refine fb_drewN ?_ _)
        · obtain ⟨B, hcan⟩ : ∃ B, Hid (∀ W, Calls Try.prog 10 #[mana a b c d, mana x y z u] W fun e w' => e = .returned (.bool B) ∧ ∃ u, lat W u = w') := ⟨_, hcan⟩
          obtain ⟨q0, q1, q2, q3, q4, q5, q6, q7⟩ := hb.out
          cases B
          · go_wp2_with (first | (go_at_call 8; refine (hc1.out _).mono ?_; rintro e w' ⟨rfl, v2, rfl⟩) | (go_at_call 10; refine (hcan.out _).mono ?_; rintro e w' ⟨rfl, v3, rfl⟩))
            refine wp_loop_rounds 5 ?_
            rw [rounds_succ]
            go_wp2
            go_quiet (fail)
            go_wp2
            rw [rounds_succ]
            go_wp2
            go_quiet (fail)
            go_wp2
            rw [rounds_succ]
            go_wp2
            go_quiet (fail)
            go_wp2
            rw [rounds_succ]
            go_wp2
            go_quiet (fail)
            go_wp2
            rw [rounds_succ]
            go_wp2
            go_ret
            obtain ⟨A1, A3, hB, hz, n1, n2, n3⟩ := HA.out
            refine ⟨rfl, fb_call hB ?_⟩
            repeat (first | exact Below.refl _ _ | refine fb_alloc ?_ _ | refine fb_lat ?_ _ | refine fb_drew ?_ | refine fb_drewN ?_ _)
          · go_wp2_with (first | (go_at_call 8; refine (hc1.out _).mono ?_; rintro e w' ⟨rfl, v2, rfl⟩) | (go_at_call 10; refine (hcan.out _).mono ?_; rintro e w' ⟨rfl, v3, rfl⟩))
            refine wp_loop_rounds 5 ?_
            rw [rounds_succ]
            go_wp2
            go_quiet (fail)
            go_wp2
            rw [rounds_succ]
            go_wp2
            go_quiet (fail)
            go_wp2
            rw [rounds_succ]
            go_wp2
            go_quiet (fail)
            go_wp2
            rw [rounds_succ]
            go_wp2
            go_quiet (fail)
            go_wp2
            rw [rounds_succ]
            go_wp2
            go_ret
            obtain ⟨A1, A3, hB, hz, n1, n2, n3⟩ := HA.out
            refine ⟨rfl, fb_call hB ?_⟩
            repeat (first | exact Below.refl _ _ | refine fb_alloc ?_ _ | refine fb_lat ?_ _ | refine fb_drew ?_ | refine fb_drewN ?_ _)
end Go.Proofs.Ythbbmkkkjbocaaa
