/- The walks of zones' New, Put, Take. No condition. -/
import Derived.Test.YtfkkkndigkchcaaZoneC
namespace Go.Proofs.Ytfkkkndigkchcaa
open Go.RowKit
attribute [local irreducible] Calls

/-- The zones hold the lists L. -/
def ZL (w0 w : World) (col : Nat → Nat) (c : Nat) (b : ZB) (g : ZG) (k : Nat) (q : List Int × List (Int × Int)) (L : List (List Nat)) : Prop := ∃ m, ZS w0 w col c b g k q m ∧ ZRep g L m
def ZLN (w0 w w' : World) (col : Nat → Nat) (c : Nat) (b : ZB) (g : ZG) (k : Nat) (q : List Int × List (Int × Int)) (L : List (List Nat)) : Prop := ∃ m, ZSN w0 w w' col c b g k q m ∧ ZRep g L m
section
variable {w0 w w1 w' : World} {col : Nat → Nat} {c k n : Nat} {b : ZB} {g : ZG} {q : List Int × List (Int × Int)} {m m' : ZM} {L L' : List (List Nat)}
set_option maxRecDepth 100000 in
set_option maxHeartbeats 4000000 in
theorem put_in (h : ZS w0 w col c b g k q m) (hr : ZRep g L m) (hk : k ≤ 800000000) (z s i0 : Nat) (hz : z < g.zones) (hs : s < g.slots) (hno : ∀ x, s ∉ L.getD x []) (l : List Nat) (hl : L.getD z [] = l) (hi : i0 ≤ l.length) :
    Calls Try.prog 37 #[.pointer (some ⟨b.Z, 0, none⟩), .int .i64 (z : Int), .int .i64 (i0 : Int), .int .i64 (s : Int)] w fun e w' => e = .returned (.int .i64 0) ∧ ∃ m', ZSN w0 w w' col c b g (k + 1000) q m' ∧ ZRep g (L.set z (putL l i0 s)) m' := by
  obtain ⟨l', hl'⟩ : ∃ l', putL l i0 s = l' := ⟨_, rfl⟩
  rw [hl']
  have hlen : l'.length = l.length + 1 := by rw [← hl']; exact putL_len (by omega)
  have hget : ∀ j, l'.getD j 0 = if j < i0 then l.getD j 0 else if j = i0 then s else l.getD (j - 1) 0 := fun j => by rw [← hl']; exact putL_get (by omega) j
  have hsl : s ∉ l := by rw [← hl]; exact hno z
  have hnd : l'.Nodup := by rw [← hl']; exact putL_nodup (by rw [← hl]; exact hr.nodup z) hsl
  have hmem : ∀ t, t ∈ l' ↔ t = s ∨ t ∈ l := fun t => by rw [← hl']; exact putL_mem
  have hlts : ∀ t ∈ l', t < g.slots := fun t ht => by
    rcases (hmem t).1 ht with rfl | h1
    · exact hs
    · exact hr.sl z t (by rw [hl]; exact h1)
  have hle : l'.length ≤ g.slots := nodup_len g.slots l' hnd hlts
  have hn : m.N z = (l.length : Nat) := by rw [hr.cnt z hz, hl]
  have hG := h.sm
  have hs2 := hG.s2
  have hH : m.H s = 0 := hr.free s hs hno
  have hcell : ∀ j, j < l.length → m.C z j = (l.getD j 0 : Nat) := fun j hj => by rw [hr.cell z j hz (by rw [hl]; exact hj), hl]
  have FIN : Hid (∀ m2, Laid m m2 z l' i0 (l.length + 1) → ZRep g (L.set z l') (m2.setN z ((l.length : Int) + 1))) := Lib.hid fun m2 hL => by
    refine hr.fin hz hnd hlts hL (by omega) (fun j hj hj2 => ?_) (fun t ht => ?_) (fun x _ => ?_) rfl (fun t _ => ⟨rfl, rfl⟩) (fun t ht ht2 => ?_)
    · have e := hget j
      rw [if_pos (by omega)] at e
      rw [hl, e]; exact ⟨by omega, rfl⟩
    · rcases (hmem t).1 ht with rfl | h1
      · exact .inr hno
      · exact .inl (by rw [hl]; exact h1)
    · show (if x = z then ((l.length : Int) + 1) else m2.N x) = _
      rw [hL.n, hlen]; rfl
    · rw [hl] at ht; exact absurd ((hmem t).2 (.inr ht)) ht2
  have key : ∀ u0, Calls Try.prog 37 #[.pointer (some ⟨b.Z, 0, none⟩), .int .i64 (z : Int), .int .i64 (i0 : Int), .int .i64 (s : Int)] (lat w u0) fun e w' => e = .returned (.int .i64 0) ∧ ∃ m', ZSN w0 w w' col c b g (k + 1000) q m' ∧ ZRep g (L.set z l') m' := by
    intro u0
    have hF := h.fo
    have ks : ∀ u, (lat w u).cell? ⟨b.Z, 2, none⟩ = some (.int .i64 (g.slots : Int)) := fun u => (hF.z.below (bel_lat0 w u) hF.z.lt).cell 2
    have hh := Lib.hid (fun u => has_in (hF.below (bel_lat0 w u)) z hz)
    have hlen' := Lib.hid (fun u => calls_lat (hn ▸ zlen_in (h.below (bel_lat0 w u) c) z hz))
    have hw := Lib.hid (fun u => calls_lat (where_no (h.below (bel_lat0 w u) c) s hs hH))
    have HS := Lib.hid (fun u => ZSN.same h (bel_lat0 w u))
    have hs0 : (0 : Int) ≤ s := by omega
    have hs1 : (s : Int) < g.slots := by omega
    have hl256 : l.length ≤ 256 := by omega
    have HC := Lib.hid hcell
    have HX := Lib.hid (And.intro hnd (And.intro hget (And.intro hlts hle)))
    have hi0 : (0 : Int) ≤ i0 := by omega
    have hi1 : (i0 : Int) ≤ l.length := by omega
    clear h hr hno hl hsl hmem hn hF hcell hnd hget hH hlts hle
    go_enter Try.func37, Try.ntmps37
    go_wp2_with (first | (go_at_call 78; refine (hh.out _).mono ?_; rintro e w' ⟨rfl, rfl⟩) | (go_at_call 42; refine (hlen'.out _).mono ?_; rintro e w' ⟨rfl, nu, rfl⟩) | (go_at_call 38; refine (hw.out _).mono ?_; rintro e w' ⟨rfl, nu, rfl⟩))
    generalize hlw : lat w _ = W0
    have HS0 := Lib.hid (hlw ▸ HS.out _)
    clear hlw HS hh hlen' hw ks
    go_loopw [13] (fun x wr => ∃ i : Nat, i0 ≤ i ∧ i ≤ l.length ∧ x = .int .i64 i ∧ Hid (∃ m2, ZSN w0 w wr col c b g (k + 3 * (l.length - i)) q m2 ∧ Laid m m2 z l' (i + 1) (l.length + 1))) (fun x _ => (intOf x).toNat)
    case atStart => exact ⟨l.length, by omega, Nat.le_refl _, rfl, Lib.hid ⟨m, HS0.out.mono (by omega), Laid.nil m z l' _⟩⟩
    case round =>
      obtain ⟨i, hi1', hi2, rfl, hst⟩ := hrel
      obtain ⟨m2, hS, hL⟩ := hst.out
      clear hst
      have hX := HX.out
      by_cases hlt : i = i0
      · have hlt' := hlt.symm
        subst hlt'
        have hval : l'.getD i0 0 = s := by rw [hX.2.1, if_neg (by omega), if_pos rfl]
        have qs := Lib.hid (lay_any hS.1 (by omega) z i0 s hz (by omega) hs)
        have HN := Lib.hid (fun w' (hN : ZSN w0 wr w' (recol w.heap.size col c) c b g (k + 3 * (l.length - i0) + 3) q (m2.lay z i0 s)) => And.intro (hS.trans hN) (show Laid m (m2.lay z i0 s) z l' i0 (l.length + 1) by have := hL.down hX.1 (by omega) (by omega); rw [hval] at this; exact this))
        clear hS hL
        go_upto_region 16 with (go_at_call 79; refine qs.out.mono ?_; rintro e w3 ⟨rfl, hN⟩)
        have hK := HN.out _ hN
        clear hN qs HN
        have hF := hK.1.1.fo
        have k0 : ∀ u, (lat w3 u).cell? ⟨b.Z, 0, none⟩ = some (.pointer (some ⟨b.T, 0, none⟩)) := fun u => (hF.z.below (bel_lat0 w3 u) hF.z.lt).cell 0
        have kN : ∀ u, (lat w3 u).cell? ⟨b.Z, 3, none⟩ = some (.func (.func 75) #[] #[.pointer (some ⟨b.F, 0, none⟩)]) := fun u => (hF.z.below (bel_lat0 w3 u) hF.z.lt).cell 3
        have qn := Lib.hid (fun u => count_any (hF.below (bel_lat0 w3 u)) hG z hz)
        have qt := Lib.hid (fun u => zs_set (h := hK.1.1.below (bel_lat0 w3 u) c) (by omega) (g.N z) ((l.length : Int) + 1) (fun cs hc => hc.setN' hz _))
        generalize g.N z = X at qn qt
        have HK := Lib.hid hK
        clear hK hF
        refine wp_region_lat_tail 12 (by kernel_rfl) (by kernel_rfl) ?_
        simp only [List.take_succ_cons, List.take_zero, List.drop_succ_cons, List.drop_zero]
        repeat (go_big_quiet_step (first | (go_at_call 75; exact quiet_lat_same (qn.out _))))
        refine wpQuiet_nil ?_
        intro _ hw'
        obtain ⟨n0, hw''⟩ := hw'
        subst hw''
        go_wp2_with (go_at_call 22; refine (qt.out _).mono ?_; rintro e w4 ⟨rfl, hN⟩)
        have HN4 := Lib.hid hN
        clear hN
        go_ret
        exact ⟨rfl, _, (HK.out.1.trans (ZSN.pre (bel_lat0 w3 n0) HN4.out)).mono (by omega), FIN.out _ HK.out.2⟩
      · have hi3 : i0 < i := by omega
        have hval : l'.getD i 0 = l.getD (i - 1) 0 := by rw [hX.2.1, if_neg (by omega), if_neg (by omega)]
        have hgv : m2.C z (i - 1) = (l.getD (i - 1) 0 : Nat) := by rw [hL.c, if_neg (by omega)]; exact HC.out (i - 1) (by omega)
        have hF := hS.1.fo
        have k0 : ∀ u, (lat wr u).cell? ⟨b.Z, 0, none⟩ = some (.pointer (some ⟨b.T, 0, none⟩)) := fun u => (hF.z.below (bel_lat0 wr u) hF.z.lt).cell 0
        have kC : ∀ u, (lat wr u).cell? ⟨b.Z, 4, none⟩ = some (.func (.func 76) #[] #[.pointer (some ⟨b.L, 0, none⟩), .pointer (some ⟨b.S, 0, none⟩)]) := fun u => (hF.z.below (bel_lat0 wr u) hF.z.lt).cell 4
        have hvs : l.getD (i - 1) 0 < g.slots := by rw [← hval]; exact hX.2.2.1 _ (getD_mem' (by omega))
        have qn := Lib.hid (fun u => cell_any (hF.below (bel_lat0 wr u)) hG z (i - 1) hz (by omega))
        have qt := Lib.hid (fun u => zs_get (hS.1.below (bel_lat0 wr u) c) (g.C z (i - 1)) (l.getD (i - 1) 0 : Nat) (fun cs hc => (hc.c z (i - 1) hz (by omega)).trans hgv))
        have qs := Lib.hid (fun u => lay_any (hS.1.below (bel_lat0 wr u) c) (by omega) z i (l.getD (i - 1) 0) hz (by omega) hvs)
        rw [show ((i - 1 : Nat) : Int) = (i : Int) - 1 by omega] at qn
        have HN := Lib.hid (fun w' u (hN : ZSN w0 (lat wr u) w' (recol wr.heap.size (recol w.heap.size col c) c) c b g (k + 3 * (l.length - i) + 3) q (m2.lay z i (l.getD (i - 1) 0))) => And.intro (hS.trans (ZSN.pre (bel_lat0 wr u) hN)) (show Laid m (m2.lay z i (l.getD (i - 1) 0)) z l' i (l.length + 1) by have := hL.down hX.1 (by omega) (by omega); rw [hval] at this; exact this))
        generalize g.C z (i - 1) = X at qn qt
        generalize l.getD (i - 1) 0 = V at qt qs HN hvs
        clear hF hS hL hgv hval
        have hgt : (i0 : Int) < i := by omega
        go_upto_region 14 with fail
        refine wp_region_lat_tail 16 (by kernel_rfl) (by kernel_rfl) ?_
        simp only [List.take_succ_cons, List.take_zero, List.drop_succ_cons, List.drop_zero]
        repeat (go_big_quiet_step (first | (go_at_call 76; exact quiet_lat_same (qn.out _)) | (go_at_call 30; exact quiet_lat_same (qt.out _))))
        refine wpQuiet_nil ?_
        intro _ hw'
        obtain ⟨n0, hw''⟩ := hw'
        subst hw''
        go_wp2_with (go_at_call 79; refine (qs.out _).mono ?_; rintro e w4 ⟨rfl, hN⟩)
        go_roundw
        case rel =>
          have hK := HN.out _ _ hN
          exact ⟨i - 1, by omega, by omega, by go_num, Lib.hid ⟨_, hK.1.mono (by omega), by rw [show i - 1 + 1 = i by omega]; exact hK.2⟩⟩
        case measure => simp [intOf]; omega
  obtain ⟨u0, hu0⟩ := lat_of (Below.refl w.heap.size w)
  have := key u0
  rw [← hu0] at this
  exact this
set_option maxRecDepth 100000 in
set_option maxHeartbeats 4000000 in
theorem put_end (h : ZS w0 w col c b g k q m) (hr : ZRep g L m) (hk : k ≤ 800000000) (z s i0 : Nat) (hz : z < g.zones) (hs : s < g.slots) (hno : ∀ x, s ∉ L.getD x []) (l : List Nat) (hl : L.getD z [] = l) (hi : i0 = l.length) :
    Calls Try.prog 37 #[.pointer (some ⟨b.Z, 0, none⟩), .int .i64 (z : Int), .int .i64 (-1), .int .i64 (s : Int)] w fun e w' => e = .returned (.int .i64 0) ∧ ∃ m', ZSN w0 w w' col c b g (k + 1000) q m' ∧ ZRep g (L.set z (putL l i0 s)) m' := by
  subst hi
  obtain ⟨l', hl'⟩ : ∃ l', putL l l.length s = l' := ⟨_, rfl⟩
  rw [hl']
  have hlen : l'.length = l.length + 1 := by rw [← hl']; exact putL_len (by omega)
  have hget : ∀ j, l'.getD j 0 = if j < l.length then l.getD j 0 else if j = l.length then s else l.getD (j - 1) 0 := fun j => by rw [← hl']; exact putL_get (by omega) j
  have hsl : s ∉ l := by rw [← hl]; exact hno z
  have hnd : l'.Nodup := by rw [← hl']; exact putL_nodup (by rw [← hl]; exact hr.nodup z) hsl
  have hmem : ∀ t, t ∈ l' ↔ t = s ∨ t ∈ l := fun t => by rw [← hl']; exact putL_mem
  have hlts : ∀ t ∈ l', t < g.slots := fun t ht => by
    rcases (hmem t).1 ht with rfl | h1
    · exact hs
    · exact hr.sl z t (by rw [hl]; exact h1)
  have hle : l'.length ≤ g.slots := nodup_len g.slots l' hnd hlts
  have hn : m.N z = (l.length : Nat) := by rw [hr.cnt z hz, hl]
  have hG := h.sm
  have hs2 := hG.s2
  have hH : m.H s = 0 := hr.free s hs hno
  have hcell : ∀ j, j < l.length → m.C z j = (l.getD j 0 : Nat) := fun j hj => by rw [hr.cell z j hz (by rw [hl]; exact hj), hl]
  have FIN : Hid (∀ m2, Laid m m2 z l' l.length (l.length + 1) → ZRep g (L.set z l') (m2.setN z ((l.length : Int) + 1))) := Lib.hid fun m2 hL => by
    refine hr.fin hz hnd hlts hL (by omega) (fun j hj hj2 => ?_) (fun t ht => ?_) (fun x _ => ?_) rfl (fun t _ => ⟨rfl, rfl⟩) (fun t ht ht2 => ?_)
    · have e := hget j
      rw [if_pos (by omega)] at e
      rw [hl, e]; exact ⟨by omega, rfl⟩
    · rcases (hmem t).1 ht with rfl | h1
      · exact .inr hno
      · exact .inl (by rw [hl]; exact h1)
    · show (if x = z then ((l.length : Int) + 1) else m2.N x) = _
      rw [hL.n, hlen]; rfl
    · rw [hl] at ht; exact absurd ((hmem t).2 (.inr ht)) ht2
  have key : ∀ u0, Calls Try.prog 37 #[.pointer (some ⟨b.Z, 0, none⟩), .int .i64 (z : Int), .int .i64 (-1), .int .i64 (s : Int)] (lat w u0) fun e w' => e = .returned (.int .i64 0) ∧ ∃ m', ZSN w0 w w' col c b g (k + 1000) q m' ∧ ZRep g (L.set z l') m' := by
    intro u0
    have hF := h.fo
    have ks : ∀ u, (lat w u).cell? ⟨b.Z, 2, none⟩ = some (.int .i64 (g.slots : Int)) := fun u => (hF.z.below (bel_lat0 w u) hF.z.lt).cell 2
    have hh := Lib.hid (fun u => has_in (hF.below (bel_lat0 w u)) z hz)
    have hlen' := Lib.hid (fun u => calls_lat (hn ▸ zlen_in (h.below (bel_lat0 w u) c) z hz))
    have hw := Lib.hid (fun u => calls_lat (where_no (h.below (bel_lat0 w u) c) s hs hH))
    have HS := Lib.hid (fun u => ZSN.same h (bel_lat0 w u))
    have hs0 : (0 : Int) ≤ s := by omega
    have hs1 : (s : Int) < g.slots := by omega
    have hl256 : l.length ≤ 256 := by omega
    have HC := Lib.hid hcell
    have HX := Lib.hid (And.intro hnd (And.intro hget (And.intro hlts hle)))
    clear h hr hno hl hsl hmem hn hF hcell hnd hget hH hlts hle
    go_enter Try.func37, Try.ntmps37
    go_wp2_with (first | (go_at_call 78; refine (hh.out _).mono ?_; rintro e w' ⟨rfl, rfl⟩) | (go_at_call 42; refine (hlen'.out _).mono ?_; rintro e w' ⟨rfl, nu, rfl⟩) | (go_at_call 38; refine (hw.out _).mono ?_; rintro e w' ⟨rfl, nu, rfl⟩))
    generalize hlw : lat w _ = W0
    have HS0 := Lib.hid (hlw ▸ HS.out _)
    clear hlw HS hh hlen' hw ks
    go_loopw [13] (fun x wr => ∃ i : Nat, l.length ≤ i ∧ i ≤ l.length ∧ x = .int .i64 i ∧ Hid (∃ m2, ZSN w0 w wr col c b g (k + 3 * (l.length - i)) q m2 ∧ Laid m m2 z l' (i + 1) (l.length + 1))) (fun x _ => (intOf x).toNat)
    case atStart => exact ⟨l.length, by omega, Nat.le_refl _, rfl, Lib.hid ⟨m, HS0.out.mono (by omega), Laid.nil m z l' _⟩⟩
    case round =>
      obtain ⟨i, hi1', hi2, rfl, hst⟩ := hrel
      obtain ⟨m2, hS, hL⟩ := hst.out
      clear hst
      have hX := HX.out
      by_cases hlt : i = l.length
      · have hlt' := hlt.symm
        subst hlt'
        have hval : l'.getD l.length 0 = s := by rw [hX.2.1, if_neg (by omega), if_pos rfl]
        have qs := Lib.hid (lay_any hS.1 (by omega) z l.length s hz (by omega) hs)
        have HN := Lib.hid (fun w' (hN : ZSN w0 wr w' (recol w.heap.size col c) c b g (k + 3 * (l.length - l.length) + 3) q (m2.lay z l.length s)) => And.intro (hS.trans hN) (show Laid m (m2.lay z l.length s) z l' l.length (l.length + 1) by have := hL.down hX.1 (by omega) (by omega); rw [hval] at this; exact this))
        clear hS hL
        go_upto_region 16 with (go_at_call 79; refine qs.out.mono ?_; rintro e w3 ⟨rfl, hN⟩)
        have hK := HN.out _ hN
        clear hN qs HN
        have hF := hK.1.1.fo
        have k0 : ∀ u, (lat w3 u).cell? ⟨b.Z, 0, none⟩ = some (.pointer (some ⟨b.T, 0, none⟩)) := fun u => (hF.z.below (bel_lat0 w3 u) hF.z.lt).cell 0
        have kN : ∀ u, (lat w3 u).cell? ⟨b.Z, 3, none⟩ = some (.func (.func 75) #[] #[.pointer (some ⟨b.F, 0, none⟩)]) := fun u => (hF.z.below (bel_lat0 w3 u) hF.z.lt).cell 3
        have qn := Lib.hid (fun u => count_any (hF.below (bel_lat0 w3 u)) hG z hz)
        have qt := Lib.hid (fun u => zs_set (h := hK.1.1.below (bel_lat0 w3 u) c) (by omega) (g.N z) ((l.length : Int) + 1) (fun cs hc => hc.setN' hz _))
        generalize g.N z = X at qn qt
        have HK := Lib.hid hK
        clear hK hF
        refine wp_region_lat_tail 12 (by kernel_rfl) (by kernel_rfl) ?_
        simp only [List.take_succ_cons, List.take_zero, List.drop_succ_cons, List.drop_zero]
        repeat (go_big_quiet_step (first | (go_at_call 75; exact quiet_lat_same (qn.out _))))
        refine wpQuiet_nil ?_
        intro _ hw'
        obtain ⟨n0, hw''⟩ := hw'
        subst hw''
        go_wp2_with (go_at_call 22; refine (qt.out _).mono ?_; rintro e w4 ⟨rfl, hN⟩)
        have HN4 := Lib.hid hN
        clear hN
        go_ret
        exact ⟨rfl, _, (HK.out.1.trans (ZSN.pre (bel_lat0 w3 n0) HN4.out)).mono (by omega), FIN.out _ HK.out.2⟩
      · omega
  obtain ⟨u0, hu0⟩ := lat_of (Below.refl w.heap.size w)
  have := key u0
  rw [← hu0] at this
  exact this
end
end Go.Proofs.Ytfkkkndigkchcaa
