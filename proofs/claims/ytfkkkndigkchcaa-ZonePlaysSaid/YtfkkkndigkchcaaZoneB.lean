/- The walks of the zones' closures and readers, and of lay. No condition. -/
import Derived.Test.YtfkkkndigkchcaaZoneA
import Derived.Test.YtfkkkndigkchcaaQTail
namespace Go.Proofs.Ytfkkkndigkchcaa
open Go.RowKit
attribute [local irreducible] Calls

section
variable {w0 w w1 w' : World} {col : Nat → Nat} {c k n : Nat} {b : ZB} {g : ZG} {q : List Int × List (Int × Int)} {m m' : ZM}
theorem geo_bd (h : ZSm g) (z : Nat) (hz : z < g.zones) : ∃ x : Nat, z * g.slots = x ∧ x ≤ 16384 := ⟨_, rfl, Nat.le_trans (Nat.mul_le_mul (Nat.le_of_lt (Nat.lt_of_lt_of_le hz h.z2)) h.s2) (by decide)⟩
theorem geo_le (h : ZSm g) : g.lists ≤ 1000064 ∧ g.homes ≤ 1016448 := by
  have := Nat.mul_le_mul h.z2 h.s2
  have := h.f
  have := h.z2
  unfold ZG.homes ZG.lists; omega
theorem count_any (h : ZoF w b g) (hs : ZSm g) (z : Nat) (hz : z < g.zones) : Calls Try.prog 75 #[.int .i64 (z : Int), .pointer (some ⟨b.F, 0, none⟩)] w fun e w' => e = .returned (.int .i64 (g.N z)) ∧ w = w' := by
  have c0 : w.cell? ⟨b.F, 0, none⟩ = some (.int .i64 (g.first : Int)) := h.f.cell 0
  have hf := hs.f
  have hz2 := hs.z2
  unfold ZG.N
  generalize g.first = f at c0 hf ⊢
  generalize g.zones = zs at hz hz2
  clear h hs
  go_enter Try.func75, Try.ntmps75
  go_wp2
  go_ret
  exact ⟨rfl, rfl⟩
theorem home_any (h : ZoF w b g) (hs : ZSm g) (s : Nat) (hz : s < g.slots) : Calls Try.prog 77 #[.int .i64 (s : Int), .pointer (some ⟨b.H, 0, none⟩)] w fun e w' => e = .returned (.int .i64 (g.H s)) ∧ w = w' := by
  have c0 : w.cell? ⟨b.H, 0, none⟩ = some (.int .i64 (g.homes : Int)) := h.h.cell 0
  have hf := (geo_le hs).2
  have hz2 := hs.s2
  unfold ZG.H
  generalize g.homes = f at c0 hf ⊢
  generalize g.slots = zs at hz hz2
  clear h hs
  go_enter Try.func77, Try.ntmps77
  go_wp2
  go_ret
  exact ⟨rfl, rfl⟩
theorem cell_any (h : ZoF w b g) (hs : ZSm g) (z j : Nat) (hz : z < g.zones) (hj : j < g.slots) : Calls Try.prog 76 #[.int .i64 (z : Int), .int .i64 (j : Int), .pointer (some ⟨b.L, 0, none⟩), .pointer (some ⟨b.S, 0, none⟩)] w fun e w' => e = .returned (.int .i64 (g.C z j)) ∧ w = w' := by
  have c0 : w.cell? ⟨b.L, 0, none⟩ = some (.int .i64 (g.lists : Int)) := h.l.cell 0
  have c1 : w.cell? ⟨b.S, 0, none⟩ = some (.int .i64 (g.slots : Int)) := h.s.cell 0
  have hf := (geo_le hs).1
  have hz2 := hs.s2
  obtain ⟨x, hx, hx2⟩ := geo_bd hs z hz
  have hmul : (z : Int) * (g.slots : Int) = (x : Int) := by rw [← Int.natCast_mul, hx]
  unfold ZG.C
  rw [hmul]
  generalize g.lists = f at c0 hf ⊢
  generalize g.slots = zs at hj hz2 hmul c1 hx
  clear h hs hx hz
  go_enter Try.func76, Try.ntmps76
  go_wp2
  go_ret
  exact ⟨rfl, rfl⟩
theorem has_nil (w : World) (z : Int) : Calls Try.prog 78 #[.pointer none, .int .i64 z] w fun e w' => e = .returned (.bool false) ∧ w = w' := by
  go_enter Try.func78, Try.ntmps78
  go_wp2
  go_ret
  exact ⟨rfl, rfl⟩
theorem has_in (h : ZoF w b g) (z : Nat) (hz : z < g.zones) : Calls Try.prog 78 #[.pointer (some ⟨b.Z, 0, none⟩), .int .i64 (z : Int)] w fun e w' => e = .returned (.bool true) ∧ w = w' := by
  have kz : w.cell? ⟨b.Z, 1, none⟩ = some (.int .i64 (g.zones : Int)) := h.z.cell 1
  have h0 : (0 : Int) ≤ z := by omega
  have h1 : (z : Int) < g.zones := by omega
  clear h
  go_enter Try.func78, Try.ntmps78
  go_wp2
  go_ret
  exact ⟨rfl, rfl⟩
theorem has_out (h : ZoF w b g) (z : Int) (hz : z < 0 ∨ (g.zones : Int) ≤ z) : Calls Try.prog 78 #[.pointer (some ⟨b.Z, 0, none⟩), .int .i64 z] w fun e w' => e = .returned (.bool false) ∧ w = w' := by
  have kz : w.cell? ⟨b.Z, 1, none⟩ = some (.int .i64 (g.zones : Int)) := h.z.cell 1
  clear h
  by_cases h0 : z < 0
  · go_enter Try.func78, Try.ntmps78
    go_wp2
    go_ret
    exact ⟨rfl, rfl⟩
  · have h1 : 0 ≤ z := by omega
    have h2 : decide (z < (g.zones : Int)) = false := by simp; omega
    clear hz h0
    go_enter Try.func78, Try.ntmps78
    go_wp2
    go_ret
    exact ⟨rfl, rfl⟩
theorem zlen_nil (w : World) (z : Int) : Calls Try.prog 42 #[.pointer none, .int .i64 z] w fun e w' => e = .returned (.int .i64 0) ∧ w = w' := by
  go_enter Try.func42, Try.ntmps42
  go_wp2_with (go_at_call 78; refine (has_nil w z).mono ?_; rintro e w' ⟨rfl, rfl⟩)
  go_ret
  exact ⟨rfl, rfl⟩
theorem zlen_out (h : ZS w0 w col c b g k q m) (z : Int) (hz : z < 0 ∨ (g.zones : Int) ≤ z) : Calls Try.prog 42 #[.pointer (some ⟨b.Z, 0, none⟩), .int .i64 z] w fun e w' => e = .returned (.int .i64 0) ∧ Below w.heap.size w w' := by
  have hh := Lib.hid (has_out h.fo z hz)
  clear h hz
  go_enter Try.func42, Try.ntmps42
  go_wp2_with (go_at_call 78; refine hh.out.mono ?_; rintro e w' ⟨rfl, rfl⟩)
  go_ret
  exact ⟨rfl, Below.refl _ _⟩
theorem zlen_in (h : ZS w0 w col c b g k q m) (z : Nat) (hz : z < g.zones) : Calls Try.prog 42 #[.pointer (some ⟨b.Z, 0, none⟩), .int .i64 (z : Int)] w fun e w' => e = .returned (.int .i64 (m.N z)) ∧ Below w.heap.size w w' := by
  have hF := h.fo
  have k0 : ∀ u, (lat w u).cell? ⟨b.Z, 0, none⟩ = some (.pointer (some ⟨b.T, 0, none⟩)) := fun u => (hF.z.below (bel_lat0 w u) hF.z.lt).cell 0
  have kN : ∀ u, (lat w u).cell? ⟨b.Z, 3, none⟩ = some (.func (.func 75) #[] #[.pointer (some ⟨b.F, 0, none⟩)]) := fun u => (hF.z.below (bel_lat0 w u) hF.z.lt).cell 3
  have hh := Lib.hid (has_in hF z hz)
  have qn := Lib.hid (fun u => count_any (hF.below (bel_lat0 w u)) h.sm z hz)
  have qt := Lib.hid (fun u => zs_get (h.below (bel_lat0 w u) c) (g.N z) (m.N z) (fun cs hc => hc.n z hz))
  generalize g.N z = X at qn qt
  generalize m.N z = V at qt ⊢
  clear h hF
  go_enter Try.func42, Try.ntmps42
  go_upto_region 3 with (go_at_call 78; refine hh.out.mono ?_; rintro e w' ⟨rfl, rfl⟩)
  refine wp_region_lat (by kernel_rfl) (by kernel_rfl) ?_
  repeat (go_big_quiet_step (first | (go_at_call 75; exact quiet_lat_same (qn.out _)) | (go_at_call 30; exact quiet_lat_same (qt.out _))))
  refine wpQuiet_nil ?_
  intro _ hw'
  obtain ⟨nu, hw''⟩ := hw'
  subst hw''
  go_wp2
  go_ret
  exact ⟨rfl, bel_lat0 w nu⟩
/-! Where. -/
theorem where_nil (w : World) (s : Int) : Calls Try.prog 38 #[.pointer none, .int .i64 s] w fun e w' => e = .returned (.tuple #[.int .i64 0, .int .i64 0, .bool false]) ∧ w = w' := by
  go_enter Try.func38, Try.ntmps38
  go_wp2
  go_ret3
  exact ⟨rfl, rfl⟩
theorem where_out (h : ZS w0 w col c b g k q m) (s : Int) (hs : s < 0 ∨ (g.slots : Int) ≤ s) : Calls Try.prog 38 #[.pointer (some ⟨b.Z, 0, none⟩), .int .i64 s] w fun e w' => e = .returned (.tuple #[.int .i64 0, .int .i64 0, .bool false]) ∧ Below w.heap.size w w' := by
  have hF := h.fo
  have ks : w.cell? ⟨b.Z, 2, none⟩ = some (.int .i64 (g.slots : Int)) := hF.z.cell 2
  clear h hF
  by_cases h0 : s < 0
  · go_enter Try.func38, Try.ntmps38
    go_wp2
    go_ret3
    exact ⟨rfl, Below.refl _ _⟩
  · have h1 : 0 ≤ s := by omega
    have h2 : (g.slots : Int) ≤ s := by omega
    clear hs h0
    go_enter Try.func38, Try.ntmps38
    go_wp2
    go_ret3
    exact ⟨rfl, Below.refl _ _⟩
theorem where_no (h : ZS w0 w col c b g k q m) (s : Nat) (hs : s < g.slots) (hm : m.H s = 0) : Calls Try.prog 38 #[.pointer (some ⟨b.Z, 0, none⟩), .int .i64 (s : Int)] w fun e w' => e = .returned (.tuple #[.int .i64 0, .int .i64 0, .bool false]) ∧ Below w.heap.size w w' := by
  have hF := h.fo
  have ks : w.cell? ⟨b.Z, 2, none⟩ = some (.int .i64 (g.slots : Int)) := hF.z.cell 2
  have k0 : w.cell? ⟨b.Z, 0, none⟩ = some (.pointer (some ⟨b.T, 0, none⟩)) := hF.z.cell 0
  have kH : w.cell? ⟨b.Z, 5, none⟩ = some (.func (.func 77) #[] #[.pointer (some ⟨b.H, 0, none⟩)]) := hF.z.cell 5
  have h0 : (0 : Int) ≤ s := by omega
  have h1 : (s : Int) < g.slots := by omega
  have qh := Lib.hid (home_any hF h.sm s hs)
  have qt := Lib.hid (zs_get h (g.H s) 0 (fun cs hc => (hc.h s hs).trans hm))
  generalize g.H s = X at qh qt
  clear h hF hm
  go_enter Try.func38, Try.ntmps38
  go_wp2_with (first | (go_at_call 77; refine qh.out.mono ?_; rintro e w' ⟨rfl, rfl⟩) | (go_at_call 30; refine qt.out.mono ?_; rintro e w' ⟨rfl, rfl⟩))
  go_ret3
  exact ⟨rfl, Below.refl _ _⟩
theorem where_yes (h : ZS w0 w col c b g k q m) (s z j : Nat) (hs : s < g.slots) (hz : z < g.zones) (hm : m.H s = (z : Int) + 1) (hp : m.P s = j) : Calls Try.prog 38 #[.pointer (some ⟨b.Z, 0, none⟩), .int .i64 (s : Int)] w fun e w' => e = .returned (.tuple #[.int .i64 (z : Int), .int .i64 (j : Int), .bool true]) ∧ Below w.heap.size w w' := by
  have hF := h.fo
  have ks : w.cell? ⟨b.Z, 2, none⟩ = some (.int .i64 (g.slots : Int)) := hF.z.cell 2
  have k0 : ∀ u, (lat w u).cell? ⟨b.Z, 0, none⟩ = some (.pointer (some ⟨b.T, 0, none⟩)) := fun u => (hF.z.below (bel_lat0 w u) hF.z.lt).cell 0
  have kH : ∀ u, (lat w u).cell? ⟨b.Z, 5, none⟩ = some (.func (.func 77) #[] #[.pointer (some ⟨b.H, 0, none⟩)]) := fun u => (hF.z.below (bel_lat0 w u) hF.z.lt).cell 5
  have h0 : (0 : Int) ≤ s := by omega
  have h1 : (s : Int) < g.slots := by omega
  have hz2 := Nat.le_trans (Nat.le_of_lt hz) h.sm.z2
  have hX2 := (geo_le h.sm).2
  have hs2 := h.sm.s2
  have hX0 : 0 ≤ g.H s := by unfold ZG.H; omega
  have hX1 : g.H s ≤ 2000000 := by unfold ZG.H; omega
  have qh := Lib.hid (fun u => home_any (hF.below (bel_lat0 w u)) h.sm s hs)
  have qt := Lib.hid (fun u => zs_get (h.below (bel_lat0 w u) c) (g.H s) ((z : Int) + 1) (fun cs hc => (hc.h s hs).trans hm))
  have qp := Lib.hid (fun u => zs_get (h.below (bel_lat0 w u) c) (g.H s + 1) (j : Int) (fun cs hc => (hc.p s hs).trans hp))
  have kT : w.cell? ⟨b.Z, 0, none⟩ = some (.pointer (some ⟨b.T, 0, none⟩)) := hF.z.cell 0
  have kH0 : w.cell? ⟨b.Z, 5, none⟩ = some (.func (.func 77) #[] #[.pointer (some ⟨b.H, 0, none⟩)]) := hF.z.cell 5
  have qh0 := Lib.hid (home_any hF h.sm s hs)
  have qt0 := Lib.hid (zs_get h (g.H s) ((z : Int) + 1) (fun cs hc => (hc.h s hs).trans hm))
  clear hX2
  generalize g.H s = X at qh qt qp qh0 qt0 hX0 hX1
  clear h hF hm hp
  go_enter Try.func38, Try.ntmps38
  go_upto_region 6 with (first | (go_at_call 77; refine qh0.out.mono ?_; rintro e w' ⟨rfl, rfl⟩) | (go_at_call 30; refine qt0.out.mono ?_; rintro e w' ⟨rfl, rfl⟩))
  refine wp_region_lat (by kernel_rfl) (by kernel_rfl) ?_
  repeat (go_big_quiet_step (first | (go_at_call 30; first | exact quiet_lat_same (qt.out _) | exact quiet_lat_same (qp.out _))))
  refine wpQuiet_nil ?_
  intro _ hw'
  obtain ⟨nu, hw''⟩ := hw'
  subst hw''
  go_wp2
  go_ret3
  exact ⟨rfl, bel_lat0 w nu⟩
/-! At. -/
theorem zat_nil (w : World) (z i : Int) : Calls Try.prog 64 #[.pointer none, .int .i64 z, .int .i64 i] w fun e w' => e = .returned (.tuple #[.int .i64 0, .int .i64 1]) ∧ w = w' := by
  go_enter Try.func64, Try.ntmps64
  go_wp2
  go_ret2
  exact ⟨rfl, rfl⟩
theorem zat_low (w : World) (B : Nat) (z i : Int) (hi : i < 0) : Calls Try.prog 64 #[.pointer (some ⟨B, 0, none⟩), .int .i64 z, .int .i64 i] w fun e w' => e = .returned (.tuple #[.int .i64 0, .int .i64 5]) ∧ Below w.heap.size w w' := by
  go_enter Try.func64, Try.ntmps64
  go_wp2
  go_ret2
  exact ⟨rfl, Below.refl _ _⟩
theorem zat_big {B : Nat} {l : Int} (z i : Int) (hl : Calls Try.prog 42 #[.pointer (some ⟨B, 0, none⟩), .int .i64 z] w fun e w' => e = .returned (.int .i64 l) ∧ Below w.heap.size w w') (h0 : 0 ≤ i) (hi : l ≤ i) : Calls Try.prog 64 #[.pointer (some ⟨B, 0, none⟩), .int .i64 z, .int .i64 i] w fun e w' => e = .returned (.tuple #[.int .i64 0, .int .i64 5]) ∧ Below w.heap.size w w' := by
  have ha := Lib.hid (calls_lat hl)
  clear hl
  go_enter Try.func64, Try.ntmps64
  go_wp2_with (go_at_call 42; refine ha.out.mono ?_; rintro e w' ⟨rfl, nu, rfl⟩)
  go_ret2
  exact ⟨rfl, bel_lat0 w nu⟩
theorem zat_in (h : ZS w0 w col c b g k q m) (z i : Nat) (hz : z < g.zones) (hi : (i : Int) < m.N z) (hj : i < g.slots) : Calls Try.prog 64 #[.pointer (some ⟨b.Z, 0, none⟩), .int .i64 (z : Int), .int .i64 (i : Int)] w fun e w' => e = .returned (.tuple #[.int .i64 (m.C z i), .int .i64 0]) ∧ Below w.heap.size w w' := by
  have ha := Lib.hid (calls_lat (zlen_in h z hz))
  have H0 := Lib.hid (And.intro h (And.intro hz hj))
  have h0 : (0 : Int) ≤ i := by omega
  obtain ⟨W, hW⟩ : ∃ W, m.C z i = W := ⟨_, rfl⟩
  rw [hW]
  have HW := Lib.hid hW
  clear hW
  generalize m.N z = V at ha hi
  clear h
  go_enter Try.func64, Try.ntmps64
  go_upto_region 5 with (go_at_call 42; refine ha.out.mono ?_; rintro e w' ⟨rfl, nu, rfl⟩)
  have h := H0.out.1.below (bel_lat0 w nu) c
  have hF := h.fo
  have HB := Lib.hid (bel_lat0 w nu)
  generalize lat w nu = wa at h hF HB ⊢
  have k0 : ∀ u, (lat wa u).cell? ⟨b.Z, 0, none⟩ = some (.pointer (some ⟨b.T, 0, none⟩)) := fun u => (hF.z.below (bel_lat0 wa u) hF.z.lt).cell 0
  have kC : ∀ u, (lat wa u).cell? ⟨b.Z, 4, none⟩ = some (.func (.func 76) #[] #[.pointer (some ⟨b.L, 0, none⟩), .pointer (some ⟨b.S, 0, none⟩)]) := fun u => (hF.z.below (bel_lat0 wa u) hF.z.lt).cell 4
  have qn := Lib.hid (fun u => cell_any (hF.below (bel_lat0 wa u)) h.sm z i H0.out.2.1 H0.out.2.2)
  have qt := Lib.hid (fun u => zs_get (h.below (bel_lat0 wa u) c) (g.C z i) W (fun cs hc => (hc.c z i H0.out.2.1 H0.out.2.2).trans HW.out))
  generalize g.C z i = X at qn qt
  clear h hF H0 ha
  refine wp_region_lat (by kernel_rfl) (by kernel_rfl) ?_
  repeat (go_big_quiet_step (first | (go_at_call 76; exact quiet_lat_same (qn.out _)) | (go_at_call 30; exact quiet_lat_same (qt.out _))))
  refine wpQuiet_nil ?_
  intro _ hw'
  obtain ⟨n2, hw''⟩ := hw'
  subst hw''
  go_wp2
  go_ret2
  exact ⟨rfl, fb_call HB.out (bel_lat0 wa n2)⟩
/-! lay. -/
theorem lay_any (h : ZS w0 w col c b g k q m) (hk : k ≤ 900000000) (z j s : Nat) (hz : z < g.zones) (hj : j < g.slots) (hs : s < g.slots) :
    Calls Try.prog 79 #[.pointer (some ⟨b.Z, 0, none⟩), .int .i64 (z : Int), .int .i64 (j : Int), .int .i64 (s : Int)] w fun e w' => e = .returned (.tuple #[]) ∧ ZSN w0 w w' col c b g (k + 3) q (m.lay z j s) := by
  have hG := h.sm
  have hX2 := (geo_le hG).2
  have hs2 := hG.s2
  have hz2 := Nat.le_trans (Nat.le_of_lt hz) hG.z2
  obtain ⟨m1, hm1⟩ : ∃ m1, m.setC z j s = m1 := ⟨_, rfl⟩
  obtain ⟨m2, hm2⟩ : ∃ m2, m1.setH s ((z : Int) + 1) = m2 := ⟨_, rfl⟩
  obtain ⟨m3, hm3⟩ : ∃ m3, m2.setP s (j : Int) = m3 := ⟨_, rfl⟩
  have hm : m.lay z j s = m3 := by rw [← hm3, ← hm2, ← hm1]; rfl
  rw [hm]
  clear hm
  have a1 : ∀ cs, Holds g cs m → Holds g (setC cs (g.C z j) s) m1 := fun cs hc => hm1 ▸ hc.setC' hz hj s
  have a2 : ∀ cs, Holds g cs m1 → Holds g (setC cs (g.H s) ((z : Int) + 1)) m2 := fun cs hc => hm2 ▸ hc.setH' hs _
  have a3 : ∀ cs, Holds g cs m2 → Holds g (setC cs (g.H s + 1) (j : Int)) m3 := fun cs hc => hm3 ▸ hc.setP' hs _
  clear hm1 hm2 hm3
  have hX0 : 0 ≤ g.H s := by unfold ZG.H; omega
  have hX1 : g.H s ≤ 2000000 := by unfold ZG.H; omega
  have c1 : ∀ w : World, ZoF w b g → Calls Try.prog 76 #[.int .i64 (z : Int), .int .i64 (j : Int), .pointer (some ⟨b.L, 0, none⟩), .pointer (some ⟨b.S, 0, none⟩)] w fun e w' => e = .returned (.int .i64 (g.C z j)) ∧ w = w' := fun _ hf => cell_any hf hG z j hz hj
  have c2 : ∀ w : World, ZoF w b g → Calls Try.prog 77 #[.int .i64 (s : Int), .pointer (some ⟨b.H, 0, none⟩)] w fun e w' => e = .returned (.int .i64 (g.H s)) ∧ w = w' := fun _ hf => home_any hf hG s hs
  generalize g.C z j = X at a1 c1
  clear hX2
  generalize g.H s = Y at a2 a3 c2 hX0 hX1
  clear hG
  have A := Lib.hid (And.intro a1 (And.intro a2 a3))
  have C1 := Lib.hid c1
  have C2 := Lib.hid c2
  clear a1 a2 a3 c1 c2
  have hF := h.fo
  have k0 : ∀ u, (lat w u).cell? ⟨b.Z, 0, none⟩ = some (.pointer (some ⟨b.T, 0, none⟩)) := fun u => (hF.z.below (bel_lat0 w u) hF.z.lt).cell 0
  have kC : ∀ u, (lat w u).cell? ⟨b.Z, 4, none⟩ = some (.func (.func 76) #[] #[.pointer (some ⟨b.L, 0, none⟩), .pointer (some ⟨b.S, 0, none⟩)]) := fun u => (hF.z.below (bel_lat0 w u) hF.z.lt).cell 4
  have qn := Lib.hid (fun u => C1.out _ (hF.below (bel_lat0 w u)))
  have qs := Lib.hid (fun u => zs_set (h.below (bel_lat0 w u) c) (by omega) X (s : Int) A.out.1)
  clear h hF
  go_enter Try.func79, Try.ntmps79
  go_upto_region 0 with fail
  refine wp_region_lat_tail 12 (by kernel_rfl) (by kernel_rfl) ?_
  simp only [List.take_succ_cons, List.take_zero, List.drop_succ_cons, List.drop_zero]
  repeat (go_big_quiet_step (first | (go_at_call 76; exact quiet_lat_same (qn.out _))))
  refine wpQuiet_nil ?_
  intro _ hw'
  obtain ⟨n0, hw''⟩ := hw'
  subst hw''
  go_upto_region 1 with (go_at_call 22; refine (qs.out _).mono ?_; rintro e w1 ⟨rfl, hN⟩)
  have HN1 := Lib.hid (ZSN.pre (bel_lat0 w n0) hN)
  clear hN k0 kC qn qs
  have h := HN1.out.1
  have hF := h.fo
  have k0 : ∀ u, (lat w1 u).cell? ⟨b.Z, 0, none⟩ = some (.pointer (some ⟨b.T, 0, none⟩)) := fun u => (hF.z.below (bel_lat0 w1 u) hF.z.lt).cell 0
  have kH : ∀ u, (lat w1 u).cell? ⟨b.Z, 5, none⟩ = some (.func (.func 77) #[] #[.pointer (some ⟨b.H, 0, none⟩)]) := fun u => (hF.z.below (bel_lat0 w1 u) hF.z.lt).cell 5
  have qn := Lib.hid (fun u => C2.out _ (hF.below (bel_lat0 w1 u)))
  have qs := Lib.hid (fun u => zs_set (h.below (bel_lat0 w1 u) c) (by omega) Y ((z : Int) + 1) A.out.2.1)
  clear h hF
  refine wp_region_lat_tail 12 (by kernel_rfl) (by kernel_rfl) ?_
  simp only [List.take_succ_cons, List.take_zero, List.drop_succ_cons, List.drop_zero]
  repeat (go_big_quiet_step (first | (go_at_call 77; exact quiet_lat_same (qn.out _))))
  refine wpQuiet_nil ?_
  intro _ hw'
  obtain ⟨n1, hw''⟩ := hw'
  subst hw''
  go_upto_region 2 with (go_at_call 22; refine (qs.out _).mono ?_; rintro e w2 ⟨rfl, hN⟩)
  have HN2 := Lib.hid (ZSN.trans HN1.out (ZSN.pre (bel_lat0 w1 n1) hN))
  clear hN k0 kH qn qs HN1
  have h := HN2.out.1
  have hF := h.fo
  have k0 : ∀ u, (lat w2 u).cell? ⟨b.Z, 0, none⟩ = some (.pointer (some ⟨b.T, 0, none⟩)) := fun u => (hF.z.below (bel_lat0 w2 u) hF.z.lt).cell 0
  have kH : ∀ u, (lat w2 u).cell? ⟨b.Z, 5, none⟩ = some (.func (.func 77) #[] #[.pointer (some ⟨b.H, 0, none⟩)]) := fun u => (hF.z.below (bel_lat0 w2 u) hF.z.lt).cell 5
  have qn := Lib.hid (fun u => C2.out _ (hF.below (bel_lat0 w2 u)))
  have qs := Lib.hid (fun u => zs_set (h.below (bel_lat0 w2 u) c) (by omega) (Y + 1) (j : Int) A.out.2.2)
  clear h hF
  refine wp_region_lat_tail 12 (by kernel_rfl) (by kernel_rfl) ?_
  simp only [List.take_succ_cons, List.take_zero, List.drop_succ_cons, List.drop_zero]
  repeat (go_big_quiet_step (first | (go_at_call 77; exact quiet_lat_same (qn.out _))))
  refine wpQuiet_nil ?_
  intro _ hw'
  obtain ⟨n2, hw''⟩ := hw'
  subst hw''
  go_wp2_with (go_at_call 22; refine (qs.out _).mono ?_; rintro e w3 ⟨rfl, hN⟩)
  have HN3 := Lib.hid (ZSN.trans HN2.out (ZSN.pre (bel_lat0 w2 n2) hN))
  clear hN
  go_end0
  exact ⟨rfl, HN3.out⟩
end
end Go.Proofs.Ytfkkkndigkchcaa
