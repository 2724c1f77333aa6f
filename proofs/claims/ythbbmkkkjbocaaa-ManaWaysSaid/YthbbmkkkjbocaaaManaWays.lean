/- ManaWays: it can be paid just if there is some way, and what is paid is one of these ways; of all mana and costs of up to twelve of each. No condition. -/
import Derived.Test.YthbbmkkkjbocaaaManaWaysN
import Derived.Test.YthbbmkkkjbocaaaManaWaysY
namespace Go.Proofs.Ythbbmkkkjbocaaa
open Go.ChangeShapes Go.WideShapes Go.ChangeAt Go.RowKit

/-- What is paid for 'any' comes of the four colours together. -/
theorem way_of (a b c d x y z u : Int) (d0 : 0 ≤ d) (u0 : 0 ≤ u) (h : can a b c d x y z u) : ∃ R G B : Int, 0 ≤ R ∧ R ≤ a - x ∧ 0 ≤ G ∧ G ≤ b - y ∧ 0 ≤ B ∧ B ≤ c - z ∧ 0 ≤ u - R - G - B ∧ u - R - G - B ≤ d ∧
    left0 a d x u = a - x - R ∧ left1 a b d x y u = b - y - G ∧ left2 a b c d x y z u = c - z - B ∧ left3 d u = d - (u - R - G - B) := by
  obtain ⟨k1, k2, k3, k4⟩ := h
  refine ⟨imin (a - x) (u - imin d u), imin (b - y) (u - imin d u - imin (a - x) (u - imin d u)), imin (c - z) (u - imin d u - imin (a - x) (u - imin d u) - imin (b - y) (u - imin d u - imin (a - x) (u - imin d u))), ?_⟩
  obtain ⟨p, hp⟩ : ∃ p, imin d u = p := ⟨_, rfl⟩
  have q1 : p = d ∨ p = u := by rw [← hp]; unfold imin; split <;> simp
  have q2 := imin_bd d u d0 u0
  unfold left0 left1 left2 left3
  rw [hp] at q2 ⊢
  obtain ⟨r, hr⟩ : ∃ r, imin (a - x) (u - p) = r := ⟨_, rfl⟩
  have r1 : r = a - x ∨ r = u - p := by rw [← hr]; unfold imin; split <;> simp
  have r2 := imin_bd (a - x) (u - p) (by omega) (by omega)
  rw [hr] at r2 ⊢
  obtain ⟨s, hs⟩ : ∃ s, imin (b - y) (u - p - r) = s := ⟨_, rfl⟩
  have s1 : s = b - y ∨ s = u - p - r := by rw [← hs]; unfold imin; split <;> simp
  have s2 := imin_bd (b - y) (u - p - r) (by omega) (by omega)
  rw [hs] at s2 ⊢
  obtain ⟨t, ht⟩ : ∃ t, imin (c - z) (u - p - r - s) = t := ⟨_, rfl⟩
  have t1 : t = c - z ∨ t = u - p - r - s := by rw [← ht]; unfold imin; split <;> simp
  have t2 := imin_bd (c - z) (u - p - r - s) (by omega) (by omega)
  rw [ht] at t2 ⊢
  omega

set_option maxHeartbeats 1000000 in
theorem manaWays_walk (a b c d x y z u : Int) (a0 : 0 ≤ a) (a1 : a ≤ 255) (b0 : 0 ≤ b) (b1 : b ≤ 255) (c0 : 0 ≤ c) (c1 : c ≤ 255) (d0 : 0 ≤ d) (d1 : d ≤ 255) (x0 : 0 ≤ x) (x1 : x ≤ 255) (y0 : 0 ≤ y) (y1 : y ≤ 255) (z0 : 0 ≤ z) (z1 : z ≤ 255) (u0 : 0 ≤ u) (u1 : u ≤ 255) (w : World) :
    Calls Try.prog 5 #[b8 a b c d, b8 x y z u] w fun e w' => e = .returned (.bool true) ∧ Below w.heap.size w w' := by
  obtain ⟨A, hA⟩ : ∃ A, a % 13 = A := ⟨_, rfl⟩
  have bA : 0 ≤ A ∧ A ≤ 12 := by omega
  have kA : cl A = A := cl_in _ (by omega) (by omega)
  obtain ⟨B, hB⟩ : ∃ B, b % 13 = B := ⟨_, rfl⟩
  have bB : 0 ≤ B ∧ B ≤ 12 := by omega
  have kB : cl B = B := cl_in _ (by omega) (by omega)
  obtain ⟨C, hC⟩ : ∃ C, c % 13 = C := ⟨_, rfl⟩
  have bC : 0 ≤ C ∧ C ≤ 12 := by omega
  have kC : cl C = C := cl_in _ (by omega) (by omega)
  obtain ⟨D, hD⟩ : ∃ D, d % 13 = D := ⟨_, rfl⟩
  have bD : 0 ≤ D ∧ D ≤ 12 := by omega
  have kD : cl D = D := cl_in _ (by omega) (by omega)
  obtain ⟨X, hX⟩ : ∃ X, x % 13 = X := ⟨_, rfl⟩
  have bX : 0 ≤ X ∧ X ≤ 12 := by omega
  have kX : cl X = X := cl_in _ (by omega) (by omega)
  obtain ⟨Y, hY⟩ : ∃ Y, y % 13 = Y := ⟨_, rfl⟩
  have bY : 0 ≤ Y ∧ Y ≤ 12 := by omega
  have kY : cl Y = Y := cl_in _ (by omega) (by omega)
  obtain ⟨Z, hZ⟩ : ∃ Z, z % 13 = Z := ⟨_, rfl⟩
  have bZ : 0 ≤ Z ∧ Z ≤ 12 := by omega
  have kZ : cl Z = Z := cl_in _ (by omega) (by omega)
  obtain ⟨U, hU⟩ : ∃ U, u % 13 = U := ⟨_, rfl⟩
  have bU : 0 ≤ U ∧ U ≤ 12 := by omega
  have kU : cl U = U := cl_in _ (by omega) (by omega)
  have s1 := fun W => small_at a b c d A B C D a0 a1 b0 b1 c0 c1 d0 d1 (Lib.hid hA) (Lib.hid hB) (Lib.hid hC) (Lib.hid hD) W
  have s2 := fun W => small_at x y z u X Y Z U x0 x1 y0 y1 z0 z1 u0 u1 (Lib.hid hX) (Lib.hid hY) (Lib.hid hZ) (Lib.hid hU) W
  have hc := fun W => can_any A B C D X Y Z U W
  by_cases h : can (cl A) (cl B) (cl C) (cl D) (cl X) (cl Y) (cl Z) (cl U)
  · have hp := fun W => pay_yes A B C D X Y Z U W h
    have hB' : canB A B C D X Y Z U = true := decide_eq_true h
    rw [hB'] at hc
    rw [kA, kB, kC, kD, kX, kY, kZ, kU] at hp h
    obtain ⟨R, G, T, r0, r1, g0, g1, t0, t1, n0, n1, e0, e1, e2, e3⟩ := way_of A B C D X Y Z U (by omega) (by omega) h
    rw [e0, e1, e2, e3] at hp
    exact ways_yes a b c d x y z u A B C D X Y Z U R G T (Lib.hid s1) (Lib.hid s2) (Lib.hid bA) (Lib.hid bB) (Lib.hid bC) (Lib.hid bD) (Lib.hid bX) (Lib.hid bY) (Lib.hid bZ) (Lib.hid bU) (Lib.hid ⟨r0, r1⟩) (Lib.hid ⟨g0, g1⟩) (Lib.hid ⟨t0, t1⟩) (Lib.hid ⟨n0, n1⟩) (Lib.hid hc)
      (Lib.hid fun W => sum_any A B C D (by omega) (by omega) (by omega) (by omega) (by omega) (by omega) (by omega) (by omega) W) (Lib.hid fun W => sum_any X Y Z U (by omega) (by omega) (by omega) (by omega) (by omega) (by omega) (by omega) (by omega) W)
      (Lib.hid fun W => sum_any _ _ _ _ (by omega) (by omega) (by omega) (by omega) (by omega) (by omega) (by omega) (by omega) W) (Lib.hid hp) w
  · have hp := fun W => pay_no A B C D X Y Z U W h
    have hB' : canB A B C D X Y Z U = false := decide_eq_false h
    rw [hB'] at hc
    rw [kA, kB, kC, kD] at hp
    rw [kA, kB, kC, kD, kX, kY, kZ, kU] at h
    have hno : A < X ∨ B < Y ∨ C < Z ∨ D + (A - X) + (B - Y) + (C - Z) < U := by unfold can at h; omega
    exact ways_no a b c d x y z u A B C D X Y Z U (Lib.hid s1) (Lib.hid s2) (Lib.hid bA) (Lib.hid bB) (Lib.hid bC) (Lib.hid bD) (Lib.hid bX) (Lib.hid bY) (Lib.hid bZ) (Lib.hid bU) (Lib.hid hno) (Lib.hid fun W => calls_lat (hc W)) (Lib.hid hp) w

theorem manaWays_own : ownKnob Try.prog.godebug = none := by kernel_rfl
theorem manaWays_laidOut : laidOutB Try.prog = true := by kernel_rfl

set_option maxHeartbeats 1000000 in
set_option maxRecDepth 100000 in
theorem manaWays_lifted (os : Os) (started : os.Started) (H : Type) (enc : TypeId × Value → H) :
    ReturnsInHanded {} Try.checked os 5 .any (Rows.manaWaysSpec.pre6 enc Try.prog Try.f5 Rows.manaWaysRow.domain false) (Rows.manaWaysSpec.post enc Try.prog Try.f5 false true false false) := by
  refine returnsInHanded_of_change (C := Try.checked) manaWays_own started (by kernel_rfl) Try.func5
    (ChangeSpec.witness6 (enc := enc) (C := Try.checked) false ⟨#[], #[.agg #[.int .u8 0, .int .u8 0, .int .u8 0, .int .u8 0], .agg #[.int .u8 0, .int .u8 0, .int .u8 0, .int .u8 0]], []⟩ 8 (by kernel_rfl) (by kernel_rfl) (by kernel_rfl) (by kernel_rfl)) ?_
  intro W base args ds gs before hval0 hW hcnd _
  have hval : ∀ (j : Nat) t v, Try.f5.params[j]? = some t → args[j]? = some v → Value.okWide Try.prog W .any base t v := hval0
  have hW' := hW
  obtain ⟨p, q, hA0, hV, rfl, hfz, hnd⟩ := hW
  have hA : DataW.TrodAll enc Try.prog W 0 (fun _ => true) true Try.f5.params.toList args.toList ds p := hA0
  rw [Try.params5] at hA hval
  obtain ⟨v0, vs0, d0, ds0, p0, q0, hargs, rfl, rfl, h0, r0⟩ := trodAll_cons hA
  obtain ⟨v1, vs1, d1, ds1, p1, q1, rfl, rfl, rfl, h1, r1⟩ := trodAll_cons r0
  obtain ⟨rfl, rfl, rfl⟩ := trodAll_nil r1
  obtain rfl : args = #[v0, v1] := by cases args; simp_all
  obtain ⟨rfl, rfl⟩ := trodVars_none hV
  have k0 := h0
  have lt0 : ∀ x ∈ p0, x.block < W.heap.size := by obtain ⟨m, hm⟩ := k0; exact DataW.trod_lt m _ _ _ hm
  obtain ⟨a, b, c, d, rfl, wfa, wfb, wfc, wfd⟩ := open_arr4 Try.underlying31 Try.underlying5 (by kernel_rfl) (by kernel_rfl) (hval 0 31 v0 rfl rfl) h0
  have bda := bounds_u8 wfa
  have bdb := bounds_u8 wfb
  have bdc := bounds_u8 wfc
  have bdd := bounds_u8 wfd
  have k1 := h1
  have lt1 : ∀ x ∈ p1, x.block < W.heap.size := by obtain ⟨m, hm⟩ := k1; exact DataW.trod_lt m _ _ _ hm
  obtain ⟨x, y, z, u, rfl, wfx, wfy, wfz, wfu⟩ := open_arr4 Try.underlying31 Try.underlying5 (by kernel_rfl) (by kernel_rfl) (hval 1 31 v1 rfl rfl) h1
  have bdx := bounds_u8 wfx
  have bdy := bounds_u8 wfy
  have bdz := bounds_u8 wfz
  have bdu := bounds_u8 wfu
  clear hA0 hval0
  refine (manaWays_walk a b c d x y z u bda.1 bda.2 bdb.1 bdb.2 bdc.1 bdc.2 bdd.1 bdd.2 bdx.1 bdx.2 bdy.1 bdy.2 bdz.1 bdz.2 bdu.1 bdu.2 W).mono fun e W' ⟨he, bel⟩ => ?_
  subst he
  exact ⟨_, rfl, _, _, _, [], _, [], hW', trodAll_mk1 (shut_bool Try.underlying4 _), (trodAll_cons_mk (Below.trod manaWays_laidOut (by kernel_rfl) (of_decide_eq_true (by kernel_rfl)) k0 bel lt0) (trodAll_cons_mk (Below.trod manaWays_laidOut (by kernel_rfl) (of_decide_eq_true (by kernel_rfl)) k1 bel lt1) trodAll_mk0)), rfl, bel.frame _, fun h => by cases h⟩

theorem manaWays_over : Rows.manaWaysRow.holds Try.pinned (OpenSpec.ofChange Rows.manaWaysSpec) :=
  OpenClaim.holds_of_wide 5 Try.f5 rfl rfl rfl rfl rfl rfl rfl ⟨rfl, rfl, rfl, rfl, rfl⟩ rfl rfl rfl rfl rfl (by kernel_rfl) Try.func5 (by kernel_rfl)
    (of_decide_eq_true (by kernel_rfl)) (by unfold Func.isWrapper; first | (rw [if_pos (by decide +kernel)]; kernel_rfl) | (rw [if_neg (by decide +kernel)]; exact ⟨rfl, rfl⟩))
    (fun os started H enc _ => manaWays_lifted os started H enc)

/-- The statement. -/
theorem manaWays_holds : Rows.ManaWaysSaid := manaWays_over
#print axioms manaWays_holds
end Go.Proofs.Ythbbmkkkjbocaaa
