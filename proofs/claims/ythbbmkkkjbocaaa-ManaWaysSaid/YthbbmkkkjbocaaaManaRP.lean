/- The walk of the reference's Pay. No condition. -/
import Derived.Test.YthbbmkkkjbocaaaManaR
namespace Go.Proofs.Ythbbmkkkjbocaaa
open Go.RowKit

set_option maxHeartbeats 4000000 in
theorem rpay_no (a' b' c' d' x' y' z' u' a b c d x y z u : Int) (ha : Hid (cl a' = a)) (hb : Hid (cl b' = b)) (hc : Hid (cl c' = c)) (hd : Hid (cl d' = d)) (hx : Hid (cl x' = x)) (hy : Hid (cl y' = y)) (hz : Hid (cl z' = z)) (hu : Hid (cl u' = u)) (hn : decide (can a b c d x y z u) = false) (w : World) :
    Calls Try.prog 9 #[mana a' b' c' d', mana x' y' z' u'] w fun e w' => e = .returned (.tuple #[mana a b c d, .int .i64 13]) ∧ Below w.heap.size w w' := by
  obtain ⟨a0, a1⟩ : 0 ≤ a ∧ a ≤ 999 := by rw [← ha.out]; exact cl_bd _
  obtain ⟨b0, b1⟩ : 0 ≤ b ∧ b ≤ 999 := by rw [← hb.out]; exact cl_bd _
  obtain ⟨c0, c1⟩ : 0 ≤ c ∧ c ≤ 999 := by rw [← hc.out]; exact cl_bd _
  obtain ⟨d0, d1⟩ : 0 ≤ d ∧ d ≤ 999 := by rw [← hd.out]; exact cl_bd _
  obtain ⟨x0, x1⟩ : 0 ≤ x ∧ x ≤ 999 := by rw [← hx.out]; exact cl_bd _
  obtain ⟨y0, y1⟩ : 0 ≤ y ∧ y ≤ 999 := by rw [← hy.out]; exact cl_bd _
  obtain ⟨z0, z1⟩ : 0 ≤ z ∧ z ≤ 999 := by rw [← hz.out]; exact cl_bd _
  obtain ⟨u0, u1⟩ : 0 ≤ u ∧ u ≤ 999 := by rw [← hu.out]; exact cl_bd _
  have Hs1 := Lib.hid (fun W => rsound_at a' b' c' d' a b c d ha hb hc hd W)
  have Hs2 := Lib.hid (fun W => rsound_at x' y' z' u' x y z u hx hy hz hu W)
  have Hc := Lib.hid (fun W => rcan_at a' b' c' d' x' y' z' u' a b c d x y z u ha hb hc hd hx hy hz hu W)
  go_enter Try.func9, Try.ntmps9
  go_wp2_with fail
  refine (Hc.out _).mono ?_; rintro e w' ⟨rfl, o1, o2, o3, o4, o5, o6, n, rfl⟩
  go_wp2_with fail
  refine (Hs1.out _).mono ?_; rintro e w' ⟨rfl, rfl⟩
  go_wp2_with fail
  refine bodyPost_ret (v := .tuple #[mana a b c d, .int .i64 13]) (by simp [results, Try.results9, go_sem]) rfl ⟨rfl, ?_⟩
  refine bel_drewN ?_ _
  go_grown

theorem imin_of (j L N : Int) (h1 : j ≤ L) (h2 : j ≤ N) (h : ¬ (0 < N - j ∧ 0 < L - j)) : j = imin L N := by unfold imin; split <;> omega

/-- Where the second loop stands at its k-th round: what is still owed, and what is left. -/
def St (a b c d x y z u : Int) (k : Nat) (N A B C D : Int) : Prop := (0 = k ∧ u = N ∧ a - x = A ∧ b - y = B ∧ c - z = C ∧ d = D) ∨ (1 = k ∧ (u - imin d u) = N ∧ a - x = A ∧ b - y = B ∧ c - z = C ∧ (d - imin d u) = D) ∨ (2 = k ∧ (u - imin d u - imin (a - x) (u - imin d u)) = N ∧ (a - x - imin (a - x) (u - imin d u)) = A ∧ b - y = B ∧ c - z = C ∧ (d - imin d u) = D) ∨ (3 = k ∧ (u - imin d u - imin (a - x) (u - imin d u) - imin (b - y) (u - imin d u - imin (a - x) (u - imin d u))) = N ∧ (a - x - imin (a - x) (u - imin d u)) = A ∧ (b - y - imin (b - y) (u - imin d u - imin (a - x) (u - imin d u))) = B ∧ c - z = C ∧ (d - imin d u) = D) ∨ (4 = k ∧ (u - imin d u - imin (a - x) (u - imin d u) - imin (b - y) (u - imin d u - imin (a - x) (u - imin d u)) - imin (c - z) (u - imin d u - imin (a - x) (u - imin d u) - imin (b - y) (u - imin d u - imin (a - x) (u - imin d u)))) = N ∧ (a - x - imin (a - x) (u - imin d u)) = A ∧ (b - y - imin (b - y) (u - imin d u - imin (a - x) (u - imin d u))) = B ∧ (c - z - imin (c - z) (u - imin d u - imin (a - x) (u - imin d u) - imin (b - y) (u - imin d u - imin (a - x) (u - imin d u)))) = C ∧ (d - imin d u) = D)

set_option maxHeartbeats 8000000 in
theorem rpay_yes (a' b' c' d' x' y' z' u' a b c d x y z u : Int) (ha : Hid (cl a' = a)) (hb : Hid (cl b' = b)) (hc : Hid (cl c' = c)) (hd : Hid (cl d' = d)) (hx : Hid (cl x' = x)) (hy : Hid (cl y' = y)) (hz : Hid (cl z' = z)) (hu : Hid (cl u' = u)) (hn : decide (can a b c d x y z u) = true) (w : World) :
    Calls Try.prog 9 #[mana a' b' c' d', mana x' y' z' u'] w fun e w' => e = .returned (.tuple #[mana (left0 a d x u) (left1 a b d x y u) (left2 a b c d x y z u) (left3 d u), .int .i64 0]) ∧ Below w.heap.size w w' := by
  obtain ⟨a0, a1⟩ : 0 ≤ a ∧ a ≤ 999 := by rw [← ha.out]; exact cl_bd _
  obtain ⟨b0, b1⟩ : 0 ≤ b ∧ b ≤ 999 := by rw [← hb.out]; exact cl_bd _
  obtain ⟨c0, c1⟩ : 0 ≤ c ∧ c ≤ 999 := by rw [← hc.out]; exact cl_bd _
  obtain ⟨d0, d1⟩ : 0 ≤ d ∧ d ≤ 999 := by rw [← hd.out]; exact cl_bd _
  obtain ⟨x0, x1⟩ : 0 ≤ x ∧ x ≤ 999 := by rw [← hx.out]; exact cl_bd _
  obtain ⟨y0, y1⟩ : 0 ≤ y ∧ y ≤ 999 := by rw [← hy.out]; exact cl_bd _
  obtain ⟨z0, z1⟩ : 0 ≤ z ∧ z ≤ 999 := by rw [← hz.out]; exact cl_bd _
  obtain ⟨u0, u1⟩ : 0 ≤ u ∧ u ≤ 999 := by rw [← hu.out]; exact cl_bd _
  have Hs1 := Lib.hid (fun W => rsound_at a' b' c' d' a b c d ha hb hc hd W)
  have Hs2 := Lib.hid (fun W => rsound_at x' y' z' u' x y z u hx hy hz hu W)
  have Hc := Lib.hid (fun W => rcan_at a' b' c' d' x' y' z' u' a b c d x y z u ha hb hc hd hx hy hz hu W)
  have hcan := of_decide_eq_true hn
  obtain ⟨k1, k2, k3, k4⟩ := hcan
  have h1' : 0 ≤ a - x := by omega
  have h2' : 0 ≤ b - y := by omega
  have h3' : 0 ≤ c - z := by omega
  go_enter Try.func9, Try.ntmps9
  go_wp2_with fail
  refine (Hc.out _).mono ?_; rintro e w' ⟨rfl, o1, o2, o3, o4, o5, o6, n, rfl⟩
  go_wp2_with fail
  refine (Hs1.out _).mono ?_; rintro e w' ⟨rfl, rfl⟩
  go_wp2_with fail
  refine (Hs2.out _).mono ?_; rintro e w' ⟨rfl, rfl⟩
  clear hn
  go_wp2
  refine wp_loop_rounds 4 ?_
  rw [rounds_succ]
  go_wp2
  go_region
  go_wp2
  rw [rounds_succ]
  go_wp2
  go_region
  go_wp2
  rw [rounds_succ]
  go_wp2
  go_region
  go_wp2
  rw [rounds_succ]
  go_wp2
  have i1 := imin_bd d u d0 u0
  have i2 := imin_bd (a - x) (u - imin d u) h1' (by omega)
  have i3 := imin_bd (b - y) (u - imin d u - imin (a - x) (u - imin d u)) h2' (by omega)
  have i4 := imin_bd (c - z) (u - imin d u - imin (a - x) (u - imin d u) - imin (b - y) (u - imin d u - imin (a - x) (u - imin d u))) h3' (by omega)
  obtain ⟨i10, i11, i12⟩ := i1
  obtain ⟨i20, i21, i22⟩ := i2
  obtain ⟨i30, i31, i32⟩ := i3
  obtain ⟨i40, i41, i42⟩ := i4
  go_loopw [8, 9] (fun nd kk wr => ∃ (k m : Nat) (N A B C D : Int), St a b c d x y z u k N A B C D ∧ kk = .int .i64 k ∧ nd = .int .i64 N ∧ wr = (((((((((((((((w.alloc (bl 23 (A) (B) (C) (D))).alloc (bl 23 x y z u)).alloc (bl 23 0 0 0 0)).alloc o1).alloc o2).alloc o3).alloc o4).alloc o5).alloc o6).alloc (bl 23 a b c d)).alloc (bl 23 a b c d)).alloc (bl 23 x y z u)).alloc (bl 23 x y z u)).alloc (bl 22 3 0 1 2)).drewN m)) (fun _ kk _ => 4 - (intOf kk).toNat)
  case atStart => exact ⟨0, n + 1 + 1 + 1, u, a - x, b - y, c - z, d, .inl ⟨rfl, rfl, rfl, rfl, rfl, rfl⟩, rfl, rfl, rfl⟩
  case round =>
    obtain ⟨k, m, N, A, B, C, D, hst, rfl, rfl, rfl⟩ := hrel
    rcases hst with ⟨rfl, rfl, rfl, rfl, rfl, rfl⟩ | ⟨rfl, rfl, rfl, rfl, rfl, rfl⟩ | ⟨rfl, rfl, rfl, rfl, rfl, rfl⟩ | ⟨rfl, rfl, rfl, rfl, rfl, rfl⟩ | ⟨rfl, rfl, rfl, rfl, rfl, rfl⟩
    · go_wp2
      go_loopw [8] (fun nd wr => ∃ (j : Int), 0 ≤ j ∧ j ≤ d ∧ j ≤ u ∧ nd = .int .i64 (u - j) ∧ wr = (((((((((((((((w.alloc (bl 23 (a - x) (b - y) (c - z) (d - j))).alloc (bl 23 x y z u)).alloc (bl 23 0 0 0 0)).alloc o1).alloc o2).alloc o3).alloc o4).alloc o5).alloc o6).alloc (bl 23 a b c d)).alloc (bl 23 a b c d)).alloc (bl 23 x y z u)).alloc (bl 23 x y z u)).alloc (bl 22 3 0 1 2)).drewN m)) (fun nd _ => (intOf nd).toNat)
      case atStart => exact ⟨0, by omega, by omega, by omega, by simp, by simp⟩
      case round =>
        obtain ⟨j, j0, j1, j2, rfl, rfl⟩ := hrel
        by_cases hin : 0 < u - j ∧ 0 < d - j
        · obtain ⟨e1, e2⟩ := hin
          go_wp2
          go_roundw
          case rel => first | exact ⟨j + 1, by omega, by omega, by omega, by go_num, by rw [show d - (j + 1) = d - j - 1 from by omega]⟩ | ((repeat apply Exists.intro); exact ⟨⟨j + 1, by omega, by omega, by omega, by go_num, by rw [show d - (j + 1) = d - j - 1 from by omega]⟩, rfl⟩)
          case measure => simp [intOf]; omega
        · have hj : j = imin (d) (u) := imin_of _ _ _ (by omega) (by omega) hin
          subst hj
          by_cases e1 : 0 < u - imin (d) (u)
          all_goals
            go_wp2
            go_roundw
            case rel => exact ⟨1, m, _, _, _, _, _, Or.inr (Or.inl ⟨rfl, rfl, rfl, rfl, rfl, rfl⟩), rfl, rfl, rfl⟩
            case measure => simp [intOf]
    · go_wp2
      go_loopw [8] (fun nd wr => ∃ (j : Int), 0 ≤ j ∧ j ≤ a - x ∧ j ≤ (u - imin d u) ∧ nd = .int .i64 ((u - imin d u) - j) ∧ wr = (((((((((((((((w.alloc (bl 23 (a - x - j) (b - y) (c - z) ((d - imin d u)))).alloc (bl 23 x y z u)).alloc (bl 23 0 0 0 0)).alloc o1).alloc o2).alloc o3).alloc o4).alloc o5).alloc o6).alloc (bl 23 a b c d)).alloc (bl 23 a b c d)).alloc (bl 23 x y z u)).alloc (bl 23 x y z u)).alloc (bl 22 3 0 1 2)).drewN m)) (fun nd _ => (intOf nd).toNat)
      case atStart => exact ⟨0, by omega, by omega, by omega, by simp, by simp⟩
      case round =>
        obtain ⟨j, j0, j1, j2, rfl, rfl⟩ := hrel
        by_cases hin : 0 < (u - imin d u) - j ∧ 0 < a - x - j
        · obtain ⟨e1, e2⟩ := hin
          go_wp2
          go_roundw
          case rel => first | exact ⟨j + 1, by omega, by omega, by omega, by go_num, by rw [show a - x - (j + 1) = a - x - j - 1 from by omega]⟩ | ((repeat apply Exists.intro); exact ⟨⟨j + 1, by omega, by omega, by omega, by go_num, by rw [show a - x - (j + 1) = a - x - j - 1 from by omega]⟩, rfl⟩)
          case measure => simp [intOf]; omega
        · have hj : j = imin (a - x) ((u - imin d u)) := imin_of _ _ _ (by omega) (by omega) hin
          subst hj
          by_cases e1 : 0 < (u - imin d u) - imin (a - x) ((u - imin d u))
          all_goals
            go_wp2
            go_roundw
            case rel => exact ⟨2, m, _, _, _, _, _, Or.inr (Or.inr (Or.inl ⟨rfl, rfl, rfl, rfl, rfl, rfl⟩)), rfl, rfl, rfl⟩
            case measure => simp [intOf]
    · go_wp2
      go_loopw [8] (fun nd wr => ∃ (j : Int), 0 ≤ j ∧ j ≤ b - y ∧ j ≤ (u - imin d u - imin (a - x) (u - imin d u)) ∧ nd = .int .i64 ((u - imin d u - imin (a - x) (u - imin d u)) - j) ∧ wr = (((((((((((((((w.alloc (bl 23 ((a - x - imin (a - x) (u - imin d u))) (b - y - j) (c - z) ((d - imin d u)))).alloc (bl 23 x y z u)).alloc (bl 23 0 0 0 0)).alloc o1).alloc o2).alloc o3).alloc o4).alloc o5).alloc o6).alloc (bl 23 a b c d)).alloc (bl 23 a b c d)).alloc (bl 23 x y z u)).alloc (bl 23 x y z u)).alloc (bl 22 3 0 1 2)).drewN m)) (fun nd _ => (intOf nd).toNat)
      case atStart => exact ⟨0, by omega, by omega, by omega, by simp, by simp⟩
      case round =>
        obtain ⟨j, j0, j1, j2, rfl, rfl⟩ := hrel
        by_cases hin : 0 < (u - imin d u - imin (a - x) (u - imin d u)) - j ∧ 0 < b - y - j
        · obtain ⟨e1, e2⟩ := hin
          go_wp2
          go_roundw
          case rel => first | exact ⟨j + 1, by omega, by omega, by omega, by go_num, by rw [show b - y - (j + 1) = b - y - j - 1 from by omega]⟩ | ((repeat apply Exists.intro); exact ⟨⟨j + 1, by omega, by omega, by omega, by go_num, by rw [show b - y - (j + 1) = b - y - j - 1 from by omega]⟩, rfl⟩)
          case measure => simp [intOf]; omega
        · have hj : j = imin (b - y) ((u - imin d u - imin (a - x) (u - imin d u))) := imin_of _ _ _ (by omega) (by omega) hin
          subst hj
          by_cases e1 : 0 < (u - imin d u - imin (a - x) (u - imin d u)) - imin (b - y) ((u - imin d u - imin (a - x) (u - imin d u)))
          all_goals
            go_wp2
            go_roundw
            case rel => exact ⟨3, m, _, _, _, _, _, Or.inr (Or.inr (Or.inr (Or.inl ⟨rfl, rfl, rfl, rfl, rfl, rfl⟩))), rfl, rfl, rfl⟩
            case measure => simp [intOf]
    · go_wp2
      go_loopw [8] (fun nd wr => ∃ (j : Int), 0 ≤ j ∧ j ≤ c - z ∧ j ≤ (u - imin d u - imin (a - x) (u - imin d u) - imin (b - y) (u - imin d u - imin (a - x) (u - imin d u))) ∧ nd = .int .i64 ((u - imin d u - imin (a - x) (u - imin d u) - imin (b - y) (u - imin d u - imin (a - x) (u - imin d u))) - j) ∧ wr = (((((((((((((((w.alloc (bl 23 ((a - x - imin (a - x) (u - imin d u))) ((b - y - imin (b - y) (u - imin d u - imin (a - x) (u - imin d u)))) (c - z - j) ((d - imin d u)))).alloc (bl 23 x y z u)).alloc (bl 23 0 0 0 0)).alloc o1).alloc o2).alloc o3).alloc o4).alloc o5).alloc o6).alloc (bl 23 a b c d)).alloc (bl 23 a b c d)).alloc (bl 23 x y z u)).alloc (bl 23 x y z u)).alloc (bl 22 3 0 1 2)).drewN m)) (fun nd _ => (intOf nd).toNat)
      case atStart => exact ⟨0, by omega, by omega, by omega, by simp, by simp⟩
      case round =>
        obtain ⟨j, j0, j1, j2, rfl, rfl⟩ := hrel
        by_cases hin : 0 < (u - imin d u - imin (a - x) (u - imin d u) - imin (b - y) (u - imin d u - imin (a - x) (u - imin d u))) - j ∧ 0 < c - z - j
        · obtain ⟨e1, e2⟩ := hin
          go_wp2
          go_roundw
          case rel => first | exact ⟨j + 1, by omega, by omega, by omega, by go_num, by rw [show c - z - (j + 1) = c - z - j - 1 from by omega]⟩ | ((repeat apply Exists.intro); exact ⟨⟨j + 1, by omega, by omega, by omega, by go_num, by rw [show c - z - (j + 1) = c - z - j - 1 from by omega]⟩, rfl⟩)
          case measure => simp [intOf]; omega
        · have hj : j = imin (c - z) ((u - imin d u - imin (a - x) (u - imin d u) - imin (b - y) (u - imin d u - imin (a - x) (u - imin d u)))) := imin_of _ _ _ (by omega) (by omega) hin
          subst hj
          by_cases e1 : 0 < (u - imin d u - imin (a - x) (u - imin d u) - imin (b - y) (u - imin d u - imin (a - x) (u - imin d u))) - imin (c - z) ((u - imin d u - imin (a - x) (u - imin d u) - imin (b - y) (u - imin d u - imin (a - x) (u - imin d u))))
          all_goals
            go_wp2
            go_roundw
            case rel => exact ⟨4, m, _, _, _, _, _, Or.inr (Or.inr (Or.inr (Or.inr (⟨rfl, rfl, rfl, rfl, rfl, rfl⟩)))), rfl, rfl, rfl⟩
            case measure => simp [intOf]
    · go_wp2
      refine bodyPost_ret (v := .tuple #[mana (left0 a d x u) (left1 a b d x y u) (left2 a b c d x y z u) (left3 d u), .int .i64 0]) (by simp [results, Try.results9, go_sem, left0, left1, left2, left3]) rfl ⟨rfl, bel_drewN ?_ _⟩
      go_grown

theorem rpay_any (a b c d x y z u : Int) (w : World) : Calls Try.prog 9 #[mana a b c d, mana x y z u] w fun e w' => e = .returned (payV (cl a) (cl b) (cl c) (cl d) (cl x) (cl y) (cl z) (cl u)) ∧ Below w.heap.size w w' := by
  by_cases h : can (cl a) (cl b) (cl c) (cl d) (cl x) (cl y) (cl z) (cl u)
  · rw [payV_yes h]
    exact rpay_yes _ _ _ _ _ _ _ _ _ _ _ _ _ _ _ _ (Lib.hid rfl) (Lib.hid rfl) (Lib.hid rfl) (Lib.hid rfl) (Lib.hid rfl) (Lib.hid rfl) (Lib.hid rfl) (Lib.hid rfl) (decide_eq_true h) w
  · rw [payV_no h]
    exact rpay_no _ _ _ _ _ _ _ _ _ _ _ _ _ _ _ _ (Lib.hid rfl) (Lib.hid rfl) (Lib.hid rfl) (Lib.hid rfl) (Lib.hid rfl) (Lib.hid rfl) (Lib.hid rfl) (Lib.hid rfl) (decide_eq_false h) w
end Go.Proofs.Ythbbmkkkjbocaaa
