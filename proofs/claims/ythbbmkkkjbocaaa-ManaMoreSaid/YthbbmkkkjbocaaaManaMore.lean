/- ManaMore: who has more can pay what one who has less can. No condition. -/
import Derived.Test.YthbbmkkkjbocaaaManaMoreW
import Derived.Test.YthbbmkkkjbocaaaOpen
namespace Go.Proofs.Ythbbmkkkjbocaaa
open Go.ChangeShapes Go.WideShapes Go.ChangeAt Go.RowKit

theorem ad_in (A m : Int) (h0 : 0 ≤ A) (h1 : A ≤ 267) (h2 : 0 ≤ m) (h3 : m ≤ 255) : ad A m = A + m := by
  unfold ad mn9 mxm
  rw [if_neg (show ¬ m < -999 by omega), if_neg (show ¬ 999 < m by omega), cl_in _ (by omega) (by omega)]
theorem can_mono {a b c d a1 b1 c1 d1 x y z u : Int} (ha : a ≤ a1) (hb : b ≤ b1) (hc : c ≤ c1) (hd : d ≤ d1) (h : can a b c d x y z u) : can a1 b1 c1 d1 x y z u := by
  unfold can at *; omega
theorem left_bd (a b c d x y z u : Int) (d0 : 0 ≤ d) (u0 : 0 ≤ u) (x0 : 0 ≤ x) (y0 : 0 ≤ y) (z0 : 0 ≤ z) (h : can a b c d x y z u) :
    0 ≤ left0 a d x u ∧ left0 a d x u ≤ a ∧ 0 ≤ left1 a b d x y u ∧ left1 a b d x y u ≤ b ∧ 0 ≤ left2 a b c d x y z u ∧ left2 a b c d x y z u ≤ c ∧ 0 ≤ left3 d u ∧ left3 d u ≤ d := by
  obtain ⟨k1, k2, k3, k4⟩ := h
  have i1 := imin_bd d u d0 u0
  have i2 := imin_bd (a - x) (u - imin d u) (by omega) (by omega)
  have i3 := imin_bd (b - y) (u - imin d u - imin (a - x) (u - imin d u)) (by omega) (by omega)
  have i4 := imin_bd (c - z) (u - imin d u - imin (a - x) (u - imin d u) - imin (b - y) (u - imin d u - imin (a - x) (u - imin d u))) (by omega) (by omega)
  unfold left0 left1 left2 left3
  omega

set_option maxHeartbeats 1000000 in
theorem manaMore_walk (a b c d x y z u m0 m1 m2 m3 : Int) (a0 : 0 ≤ a) (a1 : a ≤ 255) (b0 : 0 ≤ b) (b1 : b ≤ 255) (c0 : 0 ≤ c) (c1 : c ≤ 255) (d0 : 0 ≤ d) (d1 : d ≤ 255) (x0 : 0 ≤ x) (x1 : x ≤ 255) (y0 : 0 ≤ y) (y1 : y ≤ 255) (z0 : 0 ≤ z) (z1 : z ≤ 255) (u0 : 0 ≤ u) (u1 : u ≤ 255)
    (e0 : 0 ≤ m0 ∧ m0 ≤ 255) (e1 : 0 ≤ m1 ∧ m1 ≤ 255) (e2 : 0 ≤ m2 ∧ m2 ≤ 255) (e3 : 0 ≤ m3 ∧ m3 ≤ 255) (w : World) :
    Calls Try.prog 6 #[b8 a b c d, b8 x y z u, b8 m0 m1 m2 m3] w fun e w' => e = .returned (.bool true) ∧ Below w.heap.size w w' := by
  obtain ⟨A, hA⟩ : ∃ A, a % 13 = A := ⟨_, rfl⟩
  obtain ⟨B, hB⟩ : ∃ B, b % 13 = B := ⟨_, rfl⟩
  obtain ⟨C, hC⟩ : ∃ C, c % 13 = C := ⟨_, rfl⟩
  obtain ⟨D, hD⟩ : ∃ D, d % 13 = D := ⟨_, rfl⟩
  obtain ⟨X, hX⟩ : ∃ X, x % 13 = X := ⟨_, rfl⟩
  obtain ⟨Y, hY⟩ : ∃ Y, y % 13 = Y := ⟨_, rfl⟩
  obtain ⟨Z, hZ⟩ : ∃ Z, z % 13 = Z := ⟨_, rfl⟩
  obtain ⟨U, hU⟩ : ∃ U, u % 13 = U := ⟨_, rfl⟩
  have bA : 0 ≤ A ∧ A ≤ 12 := by omega
  have bB : 0 ≤ B ∧ B ≤ 12 := by omega
  have bC : 0 ≤ C ∧ C ≤ 12 := by omega
  have bD : 0 ≤ D ∧ D ≤ 12 := by omega
  have bX : 0 ≤ X ∧ X ≤ 12 := by omega
  have bY : 0 ≤ Y ∧ Y ≤ 12 := by omega
  have bZ : 0 ≤ Z ∧ Z ≤ 12 := by omega
  have bU : 0 ≤ U ∧ U ≤ 12 := by omega
  have kA : cl A = A := cl_in _ (by omega) (by omega)
  have kB : cl B = B := cl_in _ (by omega) (by omega)
  have kC : cl C = C := cl_in _ (by omega) (by omega)
  have kD : cl D = D := cl_in _ (by omega) (by omega)
  have kX : cl X = X := cl_in _ (by omega) (by omega)
  have kY : cl Y = Y := cl_in _ (by omega) (by omega)
  have kZ : cl Z = Z := cl_in _ (by omega) (by omega)
  have kU : cl U = U := cl_in _ (by omega) (by omega)
  have kA' : cl (A + m0) = A + m0 := cl_in _ (by omega) (by omega)
  have kB' : cl (B + m1) = B + m1 := cl_in _ (by omega) (by omega)
  have kC' : cl (C + m2) = C + m2 := cl_in _ (by omega) (by omega)
  have kD' : cl (D + m3) = D + m3 := cl_in _ (by omega) (by omega)
  have s1 := fun W => small_at a b c d A B C D a0 a1 b0 b1 c0 c1 d0 d1 (Lib.hid hA) (Lib.hid hB) (Lib.hid hC) (Lib.hid hD) W
  have s2 := fun W => small_at x y z u X Y Z U x0 x1 y0 y1 z0 z1 u0 u1 (Lib.hid hX) (Lib.hid hY) (Lib.hid hZ) (Lib.hid hU) W
  have a10 := fun W => add_0 A B C D m0 W
  have a11 := fun W => add_1 (A + m0) B C D m1 W
  have a12 := fun W => add_2 (A + m0) (B + m1) C D m2 W
  have a13 := fun W => add_3 (A + m0) (B + m1) (C + m2) D m3 W
  rw [kA, kB, kC, kD, ad_in A m0 (by omega) (by omega) (by omega) (by omega)] at a10
  rw [kA', kB, kC, kD, ad_in B m1 (by omega) (by omega) (by omega) (by omega)] at a11
  rw [kA', kB', kC, kD, ad_in C m2 (by omega) (by omega) (by omega) (by omega)] at a12
  rw [kA', kB', kC', kD, ad_in D m3 (by omega) (by omega) (by omega) (by omega)] at a13
  refine more_case a b c d x y z u m0 m1 m2 m3 A B C D X Y Z U (Lib.hid s1) (Lib.hid s2) (Lib.hid a10) (Lib.hid a11) (Lib.hid a12) (Lib.hid a13) e0 e1 e2 e3 (Lib.hid bA) (Lib.hid bB) (Lib.hid bC) (Lib.hid bD) ?_ (Lib.hid (fun W => calls_lat (can_any A B C D X Y Z U W))) w
  by_cases h : can (cl (A + m0)) (cl (B + m1)) (cl (C + m2)) (cl (D + m3)) (cl X) (cl Y) (cl Z) (cl U)
  · right
    have hp := fun W => pay_yes (A + m0) (B + m1) (C + m2) (D + m3) X Y Z U W h
    rw [kA', kB', kC', kD', kX, kY, kZ, kU] at hp h
    exact ⟨_, _, _, _, Lib.hid (left_bd _ _ _ _ _ _ _ _ (by omega) (by omega) (by omega) (by omega) (by omega) h), Lib.hid hp⟩
  · left
    have hp := fun W => pay_no (A + m0) (B + m1) (C + m2) (D + m3) X Y Z U W h
    rw [kA', kB', kC', kD'] at hp
    rw [kA', kB', kC', kD', kX, kY, kZ, kU] at h
    have hn : canB A B C D X Y Z U = false := by
      unfold canB
      rw [kA, kB, kC, kD, kX, kY, kZ, kU]
      exact decide_eq_false fun hc => h (can_mono (by omega) (by omega) (by omega) (by omega) hc)
    have hc := fun W => calls_lat (can_any A B C D X Y Z U W)
    rw [hn] at hc
    exact ⟨Lib.hid hp, Lib.hid hc⟩

theorem manaMore_own : ownKnob Try.prog.godebug = none := by kernel_rfl
theorem manaMore_laidOut : laidOutB Try.prog = true := by kernel_rfl

set_option maxHeartbeats 1000000 in
set_option maxRecDepth 100000 in
theorem manaMore_lifted (os : Os) (started : os.Started) (H : Type) (enc : TypeId × Value → H) :
    ReturnsInHanded {} Try.checked os 6 .any (Rows.manaMoreSpec.pre6 enc Try.prog Try.f6 Rows.manaMoreRow.domain false) (Rows.manaMoreSpec.post enc Try.prog Try.f6 false true false false) := by
  refine returnsInHanded_of_change (C := Try.checked) manaMore_own started (by kernel_rfl) Try.func6
    (ChangeSpec.witness6 (enc := enc) (C := Try.checked) false ⟨#[], #[.agg #[.int .u8 0, .int .u8 0, .int .u8 0, .int .u8 0], .agg #[.int .u8 0, .int .u8 0, .int .u8 0, .int .u8 0], .agg #[.int .u8 0, .int .u8 0, .int .u8 0, .int .u8 0]], []⟩ 8 (by kernel_rfl) (by kernel_rfl) (by kernel_rfl) (by kernel_rfl)) ?_
  intro W base args ds gs before hval0 hW hcnd _
  have hval : ∀ (j : Nat) t v, Try.f6.params[j]? = some t → args[j]? = some v → Value.okWide Try.prog W .any base t v := hval0
  have hW' := hW
  obtain ⟨p, q, hA0, hV, rfl, hfz, hnd⟩ := hW
  have hA : DataW.TrodAll enc Try.prog W 0 (fun _ => true) true Try.f6.params.toList args.toList ds p := hA0
  rw [Try.params6] at hA hval
  obtain ⟨v0, vs0, d0, ds0, p0, q0, hargs, rfl, rfl, h0, r0⟩ := trodAll_cons hA
  obtain ⟨v1, vs1, d1, ds1, p1, q1, rfl, rfl, rfl, h1, r1⟩ := trodAll_cons r0
  obtain ⟨v2, vs2, d2, ds2, p2, q2, rfl, rfl, rfl, h2, r2⟩ := trodAll_cons r1
  obtain ⟨rfl, rfl, rfl⟩ := trodAll_nil r2
  obtain rfl : args = #[v0, v1, v2] := by cases args; simp_all
  obtain ⟨rfl, rfl⟩ := trodVars_none hV
  have k0 := h0
  have lt0 : ∀ x ∈ p0, x.block < W.heap.size := by obtain ⟨m, hm⟩ := k0; exact DataW.trod_lt m _ _ _ hm
  obtain ⟨a, b, c, d, rfl, wfa, wfb, wfc, wfd⟩ := open_arr4 Try.underlying31 Try.underlying5 (by kernel_rfl) (by kernel_rfl) (hval 0 31 v0 rfl rfl) h0
  have bda := bounds_u8 wfa
  have bdb := bounds_u8 wfb
  have bdc := bounds_u8 wfc
  have bdd := bounds_u8 wfd
  have k1 := h1
  have lt1 : ∀ x ∈ p1, x.block < W.heap.size := by obtain ⟨m, hm⟩ := k1; exact DataW.trod_lt m _ _ _ hm
  obtain ⟨x, y, z, u, rfl, wfx, wfy, wfz, wfu⟩ := open_arr4 Try.underlying31 Try.underlying5 (by kernel_rfl) (by kernel_rfl) (hval 1 31 v1 rfl rfl) h1
  have bdx := bounds_u8 wfx
  have bdy := bounds_u8 wfy
  have bdz := bounds_u8 wfz
  have bdu := bounds_u8 wfu
  have k2 := h2
  have lt2 : ∀ x ∈ p2, x.block < W.heap.size := by obtain ⟨m, hm⟩ := k2; exact DataW.trod_lt m _ _ _ hm
  obtain ⟨m0, m1, m2, m3, rfl, wfm0, wfm1, wfm2, wfm3⟩ := open_arr4 Try.underlying31 Try.underlying5 (by kernel_rfl) (by kernel_rfl) (hval 2 31 v2 rfl rfl) h2
  have bdm0 := bounds_u8 wfm0
  have bdm1 := bounds_u8 wfm1
  have bdm2 := bounds_u8 wfm2
  have bdm3 := bounds_u8 wfm3
  clear hA0 hval0
  refine (manaMore_walk a b c d x y z u m0 m1 m2 m3 bda.1 bda.2 bdb.1 bdb.2 bdc.1 bdc.2 bdd.1 bdd.2 bdx.1 bdx.2 bdy.1 bdy.2 bdz.1 bdz.2 bdu.1 bdu.2 bdm0 bdm1 bdm2 bdm3 W).mono fun e W' ⟨he, bel⟩ => ?_
  subst he
  exact ⟨_, rfl, _, _, _, [], _, [], hW', trodAll_mk1 (shut_bool Try.underlying4 _), (trodAll_cons_mk (Below.trod manaMore_laidOut (by kernel_rfl) (of_decide_eq_true (by kernel_rfl)) k0 bel lt0) (trodAll_cons_mk (Below.trod manaMore_laidOut (by kernel_rfl) (of_decide_eq_true (by kernel_rfl)) k1 bel lt1) (trodAll_cons_mk (Below.trod manaMore_laidOut (by kernel_rfl) (of_decide_eq_true (by kernel_rfl)) k2 bel lt2) trodAll_mk0))), rfl, bel.frame _, fun h => by cases h⟩

theorem manaMore_over : Rows.manaMoreRow.holds Try.pinned (OpenSpec.ofChange Rows.manaMoreSpec) :=
  OpenClaim.holds_of_wide 6 Try.f6 rfl rfl rfl rfl rfl rfl rfl ⟨rfl, rfl, rfl, rfl, rfl⟩ rfl rfl rfl rfl rfl (by kernel_rfl) Try.func6 (by kernel_rfl)
    (of_decide_eq_true (by kernel_rfl)) (by unfold Func.isWrapper; first | (rw [if_pos (by decide +kernel)]; kernel_rfl) | (rw [if_neg (by decide +kernel)]; exact ⟨rfl, rfl⟩))
    (fun os started H enc _ => manaMore_lifted os started H enc)

/-- The statement. -/
theorem manaMore_holds : Rows.ManaMoreSaid := manaMore_over
#print axioms manaMore_holds
end Go.Proofs.Ythbbmkkkjbocaaa
