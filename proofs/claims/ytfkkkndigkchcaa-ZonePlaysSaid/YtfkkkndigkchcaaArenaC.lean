/- The walks of an arena's Make and Free. No condition. -/
import Derived.Test.YtfkkkndigkchcaaArenaB
import Derived.Test.YtfkkkndigkchcaaQTail
namespace Go.Proofs.Ytfkkkndigkchcaa
open Go.RowKit
attribute [local irreducible] Calls

section
variable {w0 w w1 w2 : World} {A Bb Ba T base cap : Nat} {O : Nat → Prop} {cs cs1 cs2 : List Int} {hs hs1 hs2 : List (Int × Int)}
theorem TrN.trans (h : TrN w0 w w1 T O cs1 hs1) (h2 : ∀ O', TrS w0 w1 T O' cs1 hs1 → (∀ k, O' k → O k ∨ w.heap.size ≤ k) → TrN w0 w1 w2 T O' cs2 hs2) : TrN w0 w w2 T O cs2 hs2 := by
  obtain ⟨O', hS, hO'⟩ := h.st
  have hn := h2 O' hS hO'
  obtain ⟨O2, hS2, hO2⟩ := hn.st
  refine ⟨⟨O2, hS2, fun k hk => ?_⟩, h.mv.trans hn.mv hO'⟩
  rcases hO2 k hk with h3 | h3
  · exact hO' k h3
  · exact .inr (Nat.le_trans h.mv.size h3)
theorem TrN.pre (hb : Below w.heap.size w w1) (h : TrN w0 w1 w2 T O cs hs) : TrN w0 w w2 T O cs hs := by
  obtain ⟨O', hS, hO'⟩ := h.st
  exact ⟨⟨O', hS, fun k hk => (hO' k hk).imp id (fun h => Nat.le_trans hb.size h)⟩, (Moved.of_below hb O).trans h.mv (fun k hk => .inl hk)⟩
theorem TrN.post (h : TrN w0 w w1 T O cs hs) (hb : Below w1.heap.size w1 w2) : TrN w0 w w2 T O cs hs := h.trans fun _ hS _ => TrN.below hS hb
theorem TrN.trans' {O1 : Nat → Prop} (h : TrN w0 w w1 T O cs1 hs1) (hO : ∀ k, O1 k → O k ∨ w.heap.size ≤ k) (hn : TrN w0 w1 w2 T O1 cs2 hs2) : TrN w0 w w2 T O cs2 hs2 := by
  obtain ⟨O2, hS2, hO2⟩ := hn.st
  refine ⟨⟨O2, hS2, fun k hk => ?_⟩, h.mv.trans hn.mv hO⟩
  rcases hO2 k hk with h3 | h3
  · exact hO k h3
  · exact .inr (Nat.le_trans h.mv.size h3)
/-- The arena's own blocks are none of the trail's. -/
def ArO (O : Nat → Prop) (A Bb Ba : Nat) : Prop := ¬ O A ∧ ¬ O Bb ∧ ¬ O Ba
theorem ArO.next {O' : Nat → Prop} (h : ArO O A Bb Ba) (hf : ArF w A Bb Ba T base cap) (hO : ∀ k, O' k → O k ∨ w.heap.size ≤ k) : ArO O' A Bb Ba :=
  ⟨fun hk => (hO _ hk).elim h.1 (fun h => by have := hf.a.lt; omega), fun hk => (hO _ hk).elim h.2.1 (fun h => by have := hf.b.lt; omega), fun hk => (hO _ hk).elim h.2.2 (fun h => by have := hf.c.lt; omega)⟩
theorem ArF.next (h : ArF w A Bb Ba T base cap) (hn : TrN w0 w w1 T O cs hs) (ho : ArO O A Bb Ba) : ArF w1 A Bb Ba T base cap := h.moved hn.mv ho.1 ho.2.1 ho.2.2
theorem make_nil (w : World) : Calls Try.prog 50 #[.pointer none] w fun e w' => e = .returned (.tuple #[.int .i64 0, .int .i64 1]) ∧ w = w' := by
  go_enter Try.func50, Try.ntmps50
  go_wp2_with (go_at_call 83; refine (none_nil w).mono ?_; rintro e w' ⟨rfl, rfl⟩)
  go_ret2
  exact ⟨rfl, rfl⟩
theorem make_full (h : ArF w A Bb Ba T base cap) (ht : TrS w0 w T O cs hs) (hz : getZ cs base = 0) : Calls Try.prog 50 #[.pointer (some ⟨A, 0, none⟩)] w fun e w' => e = .returned (.tuple #[.int .i64 0, .int .i64 6]) ∧ Below w.heap.size w w' := by
  have k0 : ∀ u, (lat w u).cell? ⟨A, 0, none⟩ = some (.pointer (some ⟨T, 0, none⟩)) := fun u => (h.a.below (bel_lat0 w u) h.a.lt).cell 0
  have k3 : ∀ u, (lat w u).cell? ⟨A, 3, none⟩ = some (.int .i64 (base : Int)) := fun u => (h.a.below (bel_lat0 w u) h.a.lt).cell 3
  have hn := Lib.hid (none_any h)
  have hgt := Lib.hid (fun u => hz ▸ tr_get (ht.below (bel_lat0 w u)) (base : Int))
  clear h ht hz
  go_enter Try.func50, Try.ntmps50
  go_upto_region 3 with (go_at_call 83; refine hn.out.mono ?_; rintro e w' ⟨rfl, rfl⟩)
  refine wp_region_lat (by kernel_rfl) (by kernel_rfl) ?_
  repeat (go_big_quiet_step (first | (go_at_call 30; exact quiet_lat_same (hgt.out _))))
  refine wpQuiet_nil ?_
  intro _ hw'
  obtain ⟨nu, hw''⟩ := hw'
  subst hw''
  go_wp2
  go_ret2
  exact ⟨rfl, bel_lat0 w nu⟩
/-- What Make leaves of the cells and of the changes: three are set. -/
def setP (p : List Int × List (Int × Int)) (i v : Int) : List Int × List (Int × Int) := (setC p.1 i v, setH p.1 p.2 i v)
def makeP (p : List Int × List (Int × Int)) (base : Nat) (s : Nat) : List Int × List (Int × Int) :=
  let p1 := setP p base (getZ p.1 ((base : Int) + 2 + 2 * s + 1))
  let p2 := setP p1 ((base : Int) + 2 + 2 * s) (getZ p1.1 ((base : Int) + 2 + 2 * s) + 3)
  setP p2 ((base : Int) + 1) (getZ p2.1 ((base : Int) + 1) + 1)
set_option maxHeartbeats 2000000 in
theorem make_any (h : ArF w A Bb Ba T base cap) (ho : ArO O A Bb Ba) (ht : TrS w0 w T O cs hs) (s : Nat) (hz : getZ cs base = (s : Int) + 1) (hs' : s < cap) (hc : cap ≤ 256) (hb : base ≤ 1048576) (hl : hs.length < 1099511620000)
    (cs1 cs2 cs3 : List Int) (hs1 hs2 hs3 : List (Int × Int)) (r g uu : Int) (hr : getZ cs ((base : Int) + 2 + 2 * s + 1) = r) (e1 : setP (cs, hs) base r = (cs1, hs1)) (hg : getZ cs1 ((base : Int) + 2 + 2 * s) = g) (g0 : 0 ≤ g) (g1 : g ≤ 1000000000)
    (e2 : setP (cs1, hs1) ((base : Int) + 2 + 2 * s) (g + 3) = (cs2, hs2)) (hu : getZ cs2 ((base : Int) + 1) = uu) (u0 : 0 ≤ uu) (u1 : uu ≤ 1000000000) (e3 : setP (cs2, hs2) ((base : Int) + 1) (uu + 1) = (cs3, hs3)) (hgo : genOk cs3 base cap) :
    Calls Try.prog 50 #[.pointer (some ⟨A, 0, none⟩)] w fun e w' => e = .returned (.tuple #[.int .i64 (atV cs3 base cap s), .int .i64 0]) ∧ TrN w0 w w' T O cs3 hs3 := by
  injection e1 with e1a e1b
  injection e2 with e2a e2b
  injection e3 with e3a e3b
  have hl1 : hs1.length ≤ hs.length + 1 := by rw [← e1b]; exact (setH_len _ _ _ _).2
  have hl2 : hs2.length ≤ hs1.length + 1 := by rw [← e2b]; exact (setH_len _ _ _ _).2
  have hn := Lib.hid (none_any h)
  have k0 : ∀ u, (lat w u).cell? ⟨A, 0, none⟩ = some (.pointer (some ⟨T, 0, none⟩)) := fun u => (h.a.below (bel_lat0 w u) h.a.lt).cell 0
  have k3 : ∀ u, (lat w u).cell? ⟨A, 3, none⟩ = some (.int .i64 (base : Int)) := fun u => (h.a.below (bel_lat0 w u) h.a.lt).cell 3
  have q1 := Lib.hid (fun u => hz ▸ tr_get (ht.below (bel_lat0 w u)) (base : Int))
  have H0 := Lib.hid (And.intro h (And.intro ho ht))
  clear h ho ht hz
  go_enter Try.func50, Try.ntmps50
  go_upto_region 3 with (go_at_call 83; refine hn.out.mono ?_; rintro e w' ⟨rfl, rfl⟩)
  refine wp_region_lat (by kernel_rfl) (by kernel_rfl) ?_
  repeat (go_big_quiet_step (first | (go_at_call 30; exact quiet_lat_same (q1.out _))))
  refine wpQuiet_nil ?_
  intro _ hw'
  obtain ⟨nu, hw''⟩ := hw'
  subst hw''
  have hF := H0.out.1.below (bel_lat0 w nu)
  have hT := H0.out.2.2.below (bel_lat0 w nu)
  have hO := H0.out.2.1
  have HB := Lib.hid (bel_lat0 w nu)
  clear k0 k3 q1 H0 hn
  generalize lat w nu = wa at hF hT HB ⊢
  have k0 : ∀ u, (lat wa u).cell? ⟨A, 0, none⟩ = some (.pointer (some ⟨T, 0, none⟩)) := fun u => (hF.a.below (bel_lat0 wa u) hF.a.lt).cell 0
  have k2 : ∀ u, (lat wa u).cell? ⟨A, 2, none⟩ = some (.func (.func 82) #[] #[.pointer (some ⟨Ba, 0, none⟩)]) := fun u => (hF.a.below (bel_lat0 wa u) hF.a.lt).cell 2
  have k3 : ∀ u, (lat wa u).cell? ⟨A, 3, none⟩ = some (.int .i64 (base : Int)) := fun u => (hF.a.below (bel_lat0 wa u) hF.a.lt).cell 3
  have qg := Lib.hid (fun u => gens_any (hF.below (bel_lat0 wa u)) ((s : Int)) hb (by omega) (by omega))
  have qr := Lib.hid (fun u => rows_any (hF.below (bel_lat0 wa u)) ((s : Int)) hb (by omega) (by omega))
  have qt := Lib.hid (fun u => hr ▸ tr_get (hT.below (bel_lat0 wa u)) ((base : Int) + 2 + 2 * s + 1))
  have qs := Lib.hid (show ∀ u, Calls Try.prog 22 #[.pointer (some ⟨T, 0, none⟩), .int .i64 ((base : Int)), .int .i64 (r)] (lat wa u) fun e w' => e = .returned (.tuple #[]) ∧ TrN w0 (lat wa u) w' T O cs1 hs1 from fun u => by
    have := tr_set (hT.below (bel_lat0 wa u)) ((base : Int)) (r) (by omega); rw [e1a, e1b] at this; exact this)
  have HF := Lib.hid (And.intro hF (And.intro hO hT))
  clear hF hO hT
  go_upto_region 6 with fail
  refine wp_region_lat_tail 19 (by kernel_rfl) (by kernel_rfl) ?_
  simp only [List.take_succ_cons, List.take_zero, List.drop_succ_cons, List.drop_zero]
  repeat (go_big_quiet_step (first | (go_at_call 81; exact quiet_lat_same (qg.out _)) | (go_at_call 82; exact quiet_lat_same (qr.out _)) | (go_at_call 30; exact quiet_lat_same (qt.out _))))
  refine wpQuiet_nil ?_
  intro _ hw'
  obtain ⟨n0, hw''⟩ := hw'
  subst hw''
  go_upto_region 7 with (go_at_call 22; refine (qs.out _).mono ?_; rintro e w1 ⟨rfl, hN⟩)
  have hN0 := TrN.pre (bel_lat0 wa n0) hN
  obtain ⟨O1, hT, hO0⟩ := hN0.st
  have hF := HF.out.1.next hN0 HF.out.2.1
  have hO := HF.out.2.1.next HF.out.1 hO0
  have HN0 := Lib.hid (And.intro hN0 hO0)
  clear hN0 hN hO0 HF k0 k2 k3 qg qr qt qs
  have k0 : ∀ u, (lat w1 u).cell? ⟨A, 0, none⟩ = some (.pointer (some ⟨T, 0, none⟩)) := fun u => (hF.a.below (bel_lat0 w1 u) hF.a.lt).cell 0
  have k1 : ∀ u, (lat w1 u).cell? ⟨A, 1, none⟩ = some (.func (.func 81) #[] #[.pointer (some ⟨Bb, 0, none⟩)]) := fun u => (hF.a.below (bel_lat0 w1 u) hF.a.lt).cell 1
  have qg := Lib.hid (fun u => gens_any (hF.below (bel_lat0 w1 u)) ((s : Int)) hb (by omega) (by omega))
  have qr := Lib.hid (fun u => rows_any (hF.below (bel_lat0 w1 u)) ((s : Int)) hb (by omega) (by omega))
  have qt := Lib.hid (fun u => hg ▸ tr_get (hT.below (bel_lat0 w1 u)) ((base : Int) + 2 + 2 * s))
  have qs := Lib.hid (show ∀ u, Calls Try.prog 22 #[.pointer (some ⟨T, 0, none⟩), .int .i64 ((base : Int) + 2 + 2 * s), .int .i64 (g + 3)] (lat w1 u) fun e w' => e = .returned (.tuple #[]) ∧ TrN w0 (lat w1 u) w' T O1 cs2 hs2 from fun u => by
    have := tr_set (hT.below (bel_lat0 w1 u)) ((base : Int) + 2 + 2 * s) (g + 3) (by omega); rw [e2a, e2b] at this; exact this)
  have HF := Lib.hid (And.intro hF (And.intro hO hT))
  clear hF hO hT
  go_upto_region 7 with fail
  refine wp_region_lat_tail 22 (by kernel_rfl) (by kernel_rfl) ?_
  simp only [List.take_succ_cons, List.take_zero, List.drop_succ_cons, List.drop_zero]
  repeat (go_big_quiet_step (first | (go_at_call 81; exact quiet_lat_same (qg.out _)) | (go_at_call 82; exact quiet_lat_same (qr.out _)) | (go_at_call 30; exact quiet_lat_same (qt.out _))))
  refine wpQuiet_nil ?_
  intro _ hw'
  obtain ⟨n1, hw''⟩ := hw'
  subst hw''
  go_upto_region 8 with (go_at_call 22; refine (qs.out _).mono ?_; rintro e w2 ⟨rfl, hN⟩)
  have hN1 := TrN.pre (bel_lat0 w1 n1) hN
  obtain ⟨O2, hT, hO1⟩ := hN1.st
  have hF := HF.out.1.next hN1 HF.out.2.1
  have hO := HF.out.2.1.next HF.out.1 hO1
  have HN1 := Lib.hid (And.intro hN1 hO1)
  clear hN1 hN hO1 HF k0 k1 qg qr qt qs
  have k0 : ∀ u, (lat w2 u).cell? ⟨A, 0, none⟩ = some (.pointer (some ⟨T, 0, none⟩)) := fun u => (hF.a.below (bel_lat0 w2 u) hF.a.lt).cell 0
  have k4 : ∀ u, (lat w2 u).cell? ⟨A, 4, none⟩ = some (.int .i64 ((base : Int) + 1)) := fun u => (hF.a.below (bel_lat0 w2 u) hF.a.lt).cell 4
  have qg := Lib.hid (fun u => gens_any (hF.below (bel_lat0 w2 u)) ((s : Int)) hb (by omega) (by omega))
  have qr := Lib.hid (fun u => rows_any (hF.below (bel_lat0 w2 u)) ((s : Int)) hb (by omega) (by omega))
  have qt := Lib.hid (fun u => hu ▸ tr_get (hT.below (bel_lat0 w2 u)) ((base : Int) + 1))
  have qs := Lib.hid (show ∀ u, Calls Try.prog 22 #[.pointer (some ⟨T, 0, none⟩), .int .i64 ((base : Int) + 1), .int .i64 (uu + 1)] (lat w2 u) fun e w' => e = .returned (.tuple #[]) ∧ TrN w0 (lat w2 u) w' T O2 cs3 hs3 from fun u => by
    have := tr_set (hT.below (bel_lat0 w2 u)) ((base : Int) + 1) (uu + 1) (by omega); rw [e3a, e3b] at this; exact this)
  have HF := Lib.hid (And.intro hF (And.intro hO hT))
  clear hF hO hT
  go_upto_region 8 with fail
  refine wp_region_lat_tail 18 (by kernel_rfl) (by kernel_rfl) ?_
  simp only [List.take_succ_cons, List.take_zero, List.drop_succ_cons, List.drop_zero]
  repeat (go_big_quiet_step (first | (go_at_call 81; exact quiet_lat_same (qg.out _)) | (go_at_call 82; exact quiet_lat_same (qr.out _)) | (go_at_call 30; exact quiet_lat_same (qt.out _))))
  refine wpQuiet_nil ?_
  intro _ hw'
  obtain ⟨n2, hw''⟩ := hw'
  subst hw''
  go_upto_region 9 with (go_at_call 22; refine (qs.out _).mono ?_; rintro e w3 ⟨rfl, hN⟩)
  have hN2 := TrN.pre (bel_lat0 w2 n2) hN
  obtain ⟨O3, hT, hO2⟩ := hN2.st
  have hF := HF.out.1.next hN2 HF.out.2.1
  have hO := HF.out.2.1.next HF.out.1 hO2
  have HN2 := Lib.hid (And.intro hN2 hO2)
  clear hN2 hN hO2 HF k0 k4 qg qr qt qs
  have ha := Lib.hid (calls_lat (at_any hF hT (s : Int) hc hb hgo))
  clear hF hT hO
  go_wp2_with (go_at_call 55; refine ha.out.mono ?_; rintro e w4 ⟨rfl, nz, rfl⟩)
  go_ret2
  exact ⟨rfl, TrN.pre HB.out (TrN.trans' HN0.out.1 HN0.out.2 (TrN.trans' HN1.out.1 HN1.out.2 (TrN.post HN2.out.1 (bel_lat0 w3 nz))))⟩
theorem free_nil (w : World) (z : Int) : Calls Try.prog 47 #[.pointer none, .int .i64 z] w fun e w' => e = .returned (.int .i64 1) ∧ w = w' := by
  go_enter Try.func47, Try.ntmps47
  go_wp2_with (go_at_call 83; refine (none_nil w).mono ?_; rintro e w' ⟨rfl, rfl⟩)
  go_ret
  exact ⟨rfl, rfl⟩
theorem free_no (h : ArF w A Bb Ba T base cap) (ht : TrS w0 w T O cs hs) (z : Int) (hc : cap ≤ 256) (hb : base ≤ 1048576) (hg : genOk cs base cap) (hz : slotV cs base cap z < 0) : Calls Try.prog 47 #[.pointer (some ⟨A, 0, none⟩), .int .i64 z] w fun e w' => e = .returned (.int .i64 5) ∧ Below w.heap.size w w' := by
  have hn := Lib.hid (none_any h)
  have hs := Lib.hid (calls_lat (slot_any h ht z hc hb hg))
  obtain ⟨v, hv⟩ : ∃ v, slotV cs base cap z = v := ⟨_, rfl⟩
  rw [hv] at hs hz
  clear h ht hg hv
  go_enter Try.func47, Try.ntmps47
  go_wp2_with (first | (go_at_call 83; refine hn.out.mono ?_; rintro e w' ⟨rfl, rfl⟩) | (go_at_call 54; refine hs.out.mono ?_; rintro e w' ⟨rfl, nu, rfl⟩))
  go_ret
  exact ⟨rfl, bel_lat0 w nu⟩
def freeP (p : List Int × List (Int × Int)) (base : Nat) (s : Nat) : List Int × List (Int × Int) :=
  let p1 := setP p ((base : Int) + 2 + 2 * s) (getZ p.1 ((base : Int) + 2 + 2 * s) - 1)
  let p2 := setP p1 ((base : Int) + 2 + 2 * s + 1) (getZ p1.1 base)
  let p3 := setP p2 base ((s : Int) + 1)
  setP p3 ((base : Int) + 1) (getZ p3.1 ((base : Int) + 1) - 1)
set_option maxHeartbeats 2000000 in
theorem free_any (h : ArF w A Bb Ba T base cap) (ho : ArO O A Bb Ba) (ht : TrS w0 w T O cs hs) (z : Int) (s : Nat) (hz : slotV cs base cap z = s) (hs' : s < cap) (hc : cap ≤ 256) (hb : base ≤ 1048576) (hgo : genOk cs base cap) (hl : hs.length < 1099511620000)
    (cs1 cs2 cs3 cs4 : List Int) (hs1 hs2 hs3 hs4 : List (Int × Int)) (g f uu : Int) (hg : getZ cs ((base : Int) + 2 + 2 * s) = g) (g0 : 1 ≤ g) (g1 : g ≤ 1000000000) (e1 : setP (cs, hs) ((base : Int) + 2 + 2 * s) (g - 1) = (cs1, hs1))
    (hf : getZ cs1 base = f) (e2 : setP (cs1, hs1) ((base : Int) + 2 + 2 * s + 1) f = (cs2, hs2)) (e3 : setP (cs2, hs2) base ((s : Int) + 1) = (cs3, hs3)) (hu : getZ cs3 ((base : Int) + 1) = uu) (u0 : 0 ≤ uu) (u1 : uu ≤ 1000000000) (e4 : setP (cs3, hs3) ((base : Int) + 1) (uu - 1) = (cs4, hs4)) :
    Calls Try.prog 47 #[.pointer (some ⟨A, 0, none⟩), .int .i64 z] w fun e w' => e = .returned (.int .i64 0) ∧ TrN w0 w w' T O cs4 hs4 := by
  injection e1 with e1a e1b
  injection e2 with e2a e2b
  injection e3 with e3a e3b
  injection e4 with e4a e4b
  have hl1 : hs1.length ≤ hs.length + 1 := by rw [← e1b]; exact (setH_len _ _ _ _).2
  have hl2 : hs2.length ≤ hs1.length + 1 := by rw [← e2b]; exact (setH_len _ _ _ _).2
  have hl3 : hs3.length ≤ hs2.length + 1 := by rw [← e3b]; exact (setH_len _ _ _ _).2
  have hn := Lib.hid (none_any h)
  have hs_ := Lib.hid (hz ▸ calls_lat (slot_any h ht z hc hb hgo))
  have H0 := Lib.hid (And.intro h (And.intro ho ht))
  clear h ho ht hz hgo
  go_enter Try.func47, Try.ntmps47
  go_upto_region 6 with (first | (go_at_call 83; refine hn.out.mono ?_; rintro e w' ⟨rfl, rfl⟩) | (go_at_call 54; refine hs_.out.mono ?_; rintro e w' ⟨rfl, nu, rfl⟩))
  have hF := H0.out.1.below (bel_lat0 w nu)
  have hT := H0.out.2.2.below (bel_lat0 w nu)
  have hO := H0.out.2.1
  have HB := Lib.hid (bel_lat0 w nu)
  clear hs_ H0 hn
  generalize lat w nu = wa at hF hT HB ⊢
  have k0 : ∀ u, (lat wa u).cell? ⟨A, 0, none⟩ = some (.pointer (some ⟨T, 0, none⟩)) := fun u => (hF.a.below (bel_lat0 wa u) hF.a.lt).cell 0
  have k1 : ∀ u, (lat wa u).cell? ⟨A, 1, none⟩ = some (.func (.func 81) #[] #[.pointer (some ⟨Bb, 0, none⟩)]) := fun u => (hF.a.below (bel_lat0 wa u) hF.a.lt).cell 1
  have qg := Lib.hid (fun u => gens_any (hF.below (bel_lat0 wa u)) ((s : Int)) hb (by omega) (by omega))
  have qr := Lib.hid (fun u => rows_any (hF.below (bel_lat0 wa u)) ((s : Int)) hb (by omega) (by omega))
  have qt := Lib.hid (fun u => hg ▸ tr_get (hT.below (bel_lat0 wa u)) ((base : Int) + 2 + 2 * s))
  have qs := Lib.hid (show ∀ u, Calls Try.prog 22 #[.pointer (some ⟨T, 0, none⟩), .int .i64 ((base : Int) + 2 + 2 * s), .int .i64 (g - 1)] (lat wa u) fun e w' => e = .returned (.tuple #[]) ∧ TrN w0 (lat wa u) w' T O cs1 hs1 from fun u => by
    have := tr_set (hT.below (bel_lat0 wa u)) ((base : Int) + 2 + 2 * s) (g - 1) (by omega); rw [e1a, e1b] at this; exact this)
  have HF := Lib.hid (And.intro hF (And.intro hO hT))
  clear hF hO hT
  go_upto_region 6 with fail
  refine wp_region_lat_tail 22 (by kernel_rfl) (by kernel_rfl) ?_
  simp only [List.take_succ_cons, List.take_zero, List.drop_succ_cons, List.drop_zero]
  repeat (go_big_quiet_step (first | (go_at_call 81; exact quiet_lat_same (qg.out _)) | (go_at_call 82; exact quiet_lat_same (qr.out _)) | (go_at_call 30; exact quiet_lat_same (qt.out _))))
  refine wpQuiet_nil ?_
  intro _ hw'
  obtain ⟨n0, hw''⟩ := hw'
  subst hw''
  go_upto_region 7 with (go_at_call 22; refine (qs.out _).mono ?_; rintro e w1 ⟨rfl, hN⟩)
  have hN0 := TrN.pre (bel_lat0 wa n0) hN
  obtain ⟨O1, hT, hO0⟩ := hN0.st
  have hF := HF.out.1.next hN0 HF.out.2.1
  have hO := HF.out.2.1.next HF.out.1 hO0
  have HN0 := Lib.hid (And.intro hN0 hO0)
  clear hN0 hN hO0 HF k0 k1 qg qr qt qs
  have k0 : ∀ u, (lat w1 u).cell? ⟨A, 0, none⟩ = some (.pointer (some ⟨T, 0, none⟩)) := fun u => (hF.a.below (bel_lat0 w1 u) hF.a.lt).cell 0
  have k2 : ∀ u, (lat w1 u).cell? ⟨A, 2, none⟩ = some (.func (.func 82) #[] #[.pointer (some ⟨Ba, 0, none⟩)]) := fun u => (hF.a.below (bel_lat0 w1 u) hF.a.lt).cell 2
  have k3 : ∀ u, (lat w1 u).cell? ⟨A, 3, none⟩ = some (.int .i64 (base : Int)) := fun u => (hF.a.below (bel_lat0 w1 u) hF.a.lt).cell 3
  have qg := Lib.hid (fun u => gens_any (hF.below (bel_lat0 w1 u)) ((s : Int)) hb (by omega) (by omega))
  have qr := Lib.hid (fun u => rows_any (hF.below (bel_lat0 w1 u)) ((s : Int)) hb (by omega) (by omega))
  have qt := Lib.hid (fun u => hf ▸ tr_get (hT.below (bel_lat0 w1 u)) ((base : Int)))
  have qs := Lib.hid (show ∀ u, Calls Try.prog 22 #[.pointer (some ⟨T, 0, none⟩), .int .i64 ((base : Int) + 2 + 2 * s + 1), .int .i64 (f)] (lat w1 u) fun e w' => e = .returned (.tuple #[]) ∧ TrN w0 (lat w1 u) w' T O1 cs2 hs2 from fun u => by
    have := tr_set (hT.below (bel_lat0 w1 u)) ((base : Int) + 2 + 2 * s + 1) (f) (by omega); rw [e2a, e2b] at this; exact this)
  have HF := Lib.hid (And.intro hF (And.intro hO hT))
  clear hF hO hT
  go_upto_region 7 with fail
  refine wp_region_lat_tail 19 (by kernel_rfl) (by kernel_rfl) ?_
  simp only [List.take_succ_cons, List.take_zero, List.drop_succ_cons, List.drop_zero]
  repeat (go_big_quiet_step (first | (go_at_call 81; exact quiet_lat_same (qg.out _)) | (go_at_call 82; exact quiet_lat_same (qr.out _)) | (go_at_call 30; exact quiet_lat_same (qt.out _))))
  refine wpQuiet_nil ?_
  intro _ hw'
  obtain ⟨n1, hw''⟩ := hw'
  subst hw''
  go_upto_region 8 with (go_at_call 22; refine (qs.out _).mono ?_; rintro e w2 ⟨rfl, hN⟩)
  have hN1 := TrN.pre (bel_lat0 w1 n1) hN
  obtain ⟨O2, hT, hO1⟩ := hN1.st
  have hF := HF.out.1.next hN1 HF.out.2.1
  have hO := HF.out.2.1.next HF.out.1 hO1
  have HN1 := Lib.hid (And.intro hN1 hO1)
  clear hN1 hN hO1 HF k0 k2 k3 qg qr qt qs
  have k0 : ∀ u, (lat w2 u).cell? ⟨A, 0, none⟩ = some (.pointer (some ⟨T, 0, none⟩)) := fun u => (hF.a.below (bel_lat0 w2 u) hF.a.lt).cell 0
  have k3 : ∀ u, (lat w2 u).cell? ⟨A, 3, none⟩ = some (.int .i64 (base : Int)) := fun u => (hF.a.below (bel_lat0 w2 u) hF.a.lt).cell 3
  have qg := Lib.hid (fun u => gens_any (hF.below (bel_lat0 w2 u)) ((s : Int)) hb (by omega) (by omega))
  have qr := Lib.hid (fun u => rows_any (hF.below (bel_lat0 w2 u)) ((s : Int)) hb (by omega) (by omega))
  have qs := Lib.hid (show ∀ u, Calls Try.prog 22 #[.pointer (some ⟨T, 0, none⟩), .int .i64 ((base : Int)), .int .i64 ((s : Int) + 1)] (lat w2 u) fun e w' => e = .returned (.tuple #[]) ∧ TrN w0 (lat w2 u) w' T O2 cs3 hs3 from fun u => by
    have := tr_set (hT.below (bel_lat0 w2 u)) ((base : Int)) ((s : Int) + 1) (by omega); rw [e3a, e3b] at this; exact this)
  have HF := Lib.hid (And.intro hF (And.intro hO hT))
  clear hF hO hT
  go_upto_region 8 with fail
  refine wp_region_lat_tail 10 (by kernel_rfl) (by kernel_rfl) ?_
  simp only [List.take_succ_cons, List.take_zero, List.drop_succ_cons, List.drop_zero]
  repeat (go_big_quiet_step (first | (go_at_call 81; exact quiet_lat_same (qg.out _)) | (go_at_call 82; exact quiet_lat_same (qr.out _)) | (go_at_call 30; exact quiet_lat_same (qt.out _))))
  refine wpQuiet_nil ?_
  intro _ hw'
  obtain ⟨n2, hw''⟩ := hw'
  subst hw''
  go_upto_region 9 with (go_at_call 22; refine (qs.out _).mono ?_; rintro e w3 ⟨rfl, hN⟩)
  have hN2 := TrN.pre (bel_lat0 w2 n2) hN
  obtain ⟨O3, hT, hO2⟩ := hN2.st
  have hF := HF.out.1.next hN2 HF.out.2.1
  have hO := HF.out.2.1.next HF.out.1 hO2
  have HN2 := Lib.hid (And.intro hN2 hO2)
  clear hN2 hN hO2 HF k0 k3 qg qr  qs
  have k0 : ∀ u, (lat w3 u).cell? ⟨A, 0, none⟩ = some (.pointer (some ⟨T, 0, none⟩)) := fun u => (hF.a.below (bel_lat0 w3 u) hF.a.lt).cell 0
  have k4 : ∀ u, (lat w3 u).cell? ⟨A, 4, none⟩ = some (.int .i64 ((base : Int) + 1)) := fun u => (hF.a.below (bel_lat0 w3 u) hF.a.lt).cell 4
  have qg := Lib.hid (fun u => gens_any (hF.below (bel_lat0 w3 u)) ((s : Int)) hb (by omega) (by omega))
  have qr := Lib.hid (fun u => rows_any (hF.below (bel_lat0 w3 u)) ((s : Int)) hb (by omega) (by omega))
  have qt := Lib.hid (fun u => hu ▸ tr_get (hT.below (bel_lat0 w3 u)) ((base : Int) + 1))
  have qs := Lib.hid (show ∀ u, Calls Try.prog 22 #[.pointer (some ⟨T, 0, none⟩), .int .i64 ((base : Int) + 1), .int .i64 (uu - 1)] (lat w3 u) fun e w' => e = .returned (.tuple #[]) ∧ TrN w0 (lat w3 u) w' T O3 cs4 hs4 from fun u => by
    have := tr_set (hT.below (bel_lat0 w3 u)) ((base : Int) + 1) (uu - 1) (by omega); rw [e4a, e4b] at this; exact this)
  have HF := Lib.hid (And.intro hF (And.intro hO hT))
  clear hF hO hT
  go_upto_region 9 with fail
  refine wp_region_lat_tail 18 (by kernel_rfl) (by kernel_rfl) ?_
  simp only [List.take_succ_cons, List.take_zero, List.drop_succ_cons, List.drop_zero]
  repeat (go_big_quiet_step (first | (go_at_call 81; exact quiet_lat_same (qg.out _)) | (go_at_call 82; exact quiet_lat_same (qr.out _)) | (go_at_call 30; exact quiet_lat_same (qt.out _))))
  refine wpQuiet_nil ?_
  intro _ hw'
  obtain ⟨n3, hw''⟩ := hw'
  subst hw''
  go_upto_region 10 with (go_at_call 22; refine (qs.out _).mono ?_; rintro e w4 ⟨rfl, hN⟩)
  have hN3 := TrN.pre (bel_lat0 w3 n3) hN
  obtain ⟨O4, hT, hO3⟩ := hN3.st
  have hF := HF.out.1.next hN3 HF.out.2.1
  have hO := HF.out.2.1.next HF.out.1 hO3
  have HN3 := Lib.hid (And.intro hN3 hO3)
  clear hN3 hN hO3 HF k0 k4 qg qr qt qs
  clear hF hT hO
  go_wp2
  go_ret
  exact ⟨rfl, TrN.pre HB.out (TrN.trans' HN0.out.1 HN0.out.2 (TrN.trans' HN1.out.1 HN1.out.2 (TrN.trans' HN2.out.1 HN2.out.2 HN3.out.1)))⟩
end
end Go.Proofs.Ytfkkkndigkchcaa
