/- The walks of zones' Take and New; what they refuse. No condition. -/
import Derived.Test.YtfkkkndigkchcaaZoneC
namespace Go.Proofs.Ytfkkkndigkchcaa
open Go.RowKit
attribute [local irreducible] Calls

section
variable {w0 w w1 w' : World} {col : Nat → Nat} {c k n : Nat} {b : ZB} {g : ZG} {q : List Int × List (Int × Int)} {m m' : ZM} {L L' : List (List Nat)}
set_option maxRecDepth 100000 in
set_option maxHeartbeats 4000000 in
theorem take_ok (h : ZS w0 w col c b g k q m) (hr : ZRep g L m) (hk : k ≤ 800000000) (z j : Nat) (l : List Nat) (hl : L.getD z [] = l) (hj : j < l.length) :
    Calls Try.prog 40 #[.pointer (some ⟨b.Z, 0, none⟩), .int .i64 (l.getD j 0 : Nat)] w fun e w' => e = .returned (.int .i64 0) ∧ ∃ m', ZSN w0 w w' col c b g (k + 1000) q m' ∧ ZRep g (L.set z (takeL l j)) m' := by
  have hjz : (L.getD z []).getD j 0 = l.getD j 0 := by rw [hl]
  have hjm : l.getD j 0 ∈ L.getD z [] := by rw [hl]; exact getD_mem' hj
  have hz := hr.out hjm
  have hs := hr.sl z _ hjm
  have hhome := hr.home z j hz (by rw [hl]; exact hj)
  rw [hjz] at hhome
  obtain ⟨s, hsv⟩ : ∃ s, l.getD j 0 = s := ⟨_, rfl⟩
  obtain ⟨l', hl'⟩ : ∃ l', takeL l j = l' := ⟨_, rfl⟩
  have hnl := hr.nodup z
  rw [hl] at hnl
  have hnot : s ∉ l' := by rw [← hl', ← hsv]; exact takeL_not hnl hj
  have hlen : l'.length = l.length - 1 := by rw [← hl']; exact takeL_len hj
  have hget : ∀ i, l'.getD i 0 = if i < j then l.getD i 0 else l.getD (i + 1) 0 := fun i => by rw [← hl']; exact takeL_get hj i
  have hnd : l'.Nodup := by rw [← hl']; exact takeL_nodup hnl
  have hsub : ∀ t ∈ l', t ∈ l := fun t ht => takeL_sub (i := j) (by rw [hl']; exact ht)
  have hmem : ∀ t ∈ l, t = s ∨ t ∈ l' := fun t ht => by rw [← hsv, ← hl']; exact takeL_mem hj ht
  rw [hl']
  rw [hsv] at hjm hs hhome ⊢
  have hlts : ∀ t ∈ l, t < g.slots := fun t ht => hr.sl z t (by rw [hl]; exact ht)
  have hle : l.length ≤ g.slots := nodup_len g.slots l hnl hlts
  have hn : m.N z = (l.length : Nat) := by rw [hr.cnt z hz, hl]
  have hG := h.sm
  have hs2 := hG.s2
  have hcell : ∀ i, i < l.length → m.C z i = (l.getD i 0 : Nat) := fun i hi => by rw [hr.cell z i hz (by rw [hl]; exact hi), hl]
  have FIN : Hid (∀ m2, Laid m m2 z l' j (l.length - 1) → ZRep g (L.set z l') (((m2.setH s 0).setP s 0).setN z ((l.length : Int) - 1))) := Lib.hid fun m2 hL => by
    refine hr.fin hz hnd (fun t ht => hlts t (hsub t ht)) hL (by omega) (fun i hi hi2 => ?_) (fun t ht => .inl (by rw [hl]; exact hsub t ht)) (fun x _ => ?_) rfl (fun t ht => ?_) (fun t ht ht2 => ?_)
    · have e := hget i
      rw [if_pos (by omega)] at e
      rw [hl, e]; exact ⟨by omega, rfl⟩
    · show (if x = z then ((l.length : Int) - 1) else m2.N x) = _
      rw [hL.n, hlen]
      by_cases e : x = z
      · rw [if_pos e, if_pos e]; omega
      · rw [if_neg e, if_neg e]
    · have hts : t ≠ s := fun e => by
        rcases ht with h1 | h1
        · exact hnot (e ▸ h1)
        · exact h1 (e ▸ hjm)
      exact ⟨if_neg hts, if_neg hts⟩
    · rw [hl] at ht
      rcases hmem t ht with e | h1
      · exact if_pos e
      · exact absurd h1 ht2
  have key : ∀ u0, Calls Try.prog 40 #[.pointer (some ⟨b.Z, 0, none⟩), .int .i64 (s : Int)] (lat w u0) fun e w' => e = .returned (.int .i64 0) ∧ ∃ m', ZSN w0 w w' col c b g (k + 1000) q m' ∧ ZRep g (L.set z l') m' := by
    intro u0
    have hlen' := Lib.hid (fun u => calls_lat (hn ▸ zlen_in (h.below (bel_lat0 w u) c) z hz))
    have hw := Lib.hid (fun u => calls_lat (where_yes (h.below (bel_lat0 w u) c) s z j hs hz hhome.1 hhome.2))
    have HS := Lib.hid (fun u => ZSN.same h (bel_lat0 w u))
    have hl256 : l.length ≤ 256 := by omega
    have HC := Lib.hid hcell
    have HX := Lib.hid (And.intro hnd (And.intro hget (And.intro hlts (And.intro hsub hs))))
    clear h hr hl hjz hjm hs hhome hsv hl' hnl hnot hget hnd hsub hmem hlts hn hcell
    go_enter Try.func40, Try.ntmps40
    go_wp2_with (first | (go_at_call 42; refine (hlen'.out _).mono ?_; rintro e w' ⟨rfl, nu, rfl⟩) | (go_at_call 38; refine (hw.out _).mono ?_; rintro e w' ⟨rfl, nu, rfl⟩))
    generalize hlw : lat w _ = W0
    have HS0 := Lib.hid (hlw ▸ HS.out _)
    clear hlw HS hlen' hw
    go_loopw [9] (fun x wr => ∃ i : Nat, j ≤ i ∧ i ≤ l.length - 1 ∧ x = .int .i64 i ∧ Hid (∃ m2, ZSN w0 w wr col c b g (k + 3 * (i - j)) q m2 ∧ Laid m m2 z l' j i)) (fun x _ => l.length - (intOf x).toNat)
    case atStart => exact ⟨j, Nat.le_refl _, by omega, rfl, Lib.hid ⟨m, HS0.out.mono (by omega), Laid.nil m z l' _⟩⟩
    case round =>
      obtain ⟨i, hi1', hi2, rfl, hst⟩ := hrel
      obtain ⟨m2, hS, hL⟩ := hst.out
      clear hst
      have hX := HX.out
      by_cases hlt : i < l.length - 1
      · have hval : l'.getD i 0 = l.getD (i + 1) 0 := by rw [hX.2.1, if_neg (by omega)]
        have hgv : m2.C z (i + 1) = (l.getD (i + 1) 0 : Nat) := by rw [hL.c, if_neg (by omega)]; exact HC.out (i + 1) (by omega)
        have hF := hS.1.fo
        have k0 : ∀ u, (lat wr u).cell? ⟨b.Z, 0, none⟩ = some (.pointer (some ⟨b.T, 0, none⟩)) := fun u => (hF.z.below (bel_lat0 wr u) hF.z.lt).cell 0
        have kC : ∀ u, (lat wr u).cell? ⟨b.Z, 4, none⟩ = some (.func (.func 76) #[] #[.pointer (some ⟨b.L, 0, none⟩), .pointer (some ⟨b.S, 0, none⟩)]) := fun u => (hF.z.below (bel_lat0 wr u) hF.z.lt).cell 4
        have hvs : l.getD (i + 1) 0 < g.slots := hX.2.2.1 _ (getD_mem' (by omega))
        have qn := Lib.hid (fun u => cell_any (hF.below (bel_lat0 wr u)) hG z (i + 1) hz (by omega))
        have qt := Lib.hid (fun u => zs_get (hS.1.below (bel_lat0 wr u) c) (g.C z (i + 1)) (l.getD (i + 1) 0 : Nat) (fun cs hc => (hc.c z (i + 1) hz (by omega)).trans hgv))
        have qs := Lib.hid (fun u => lay_any (hS.1.below (bel_lat0 wr u) c) (by omega) z i (l.getD (i + 1) 0) hz (by omega) hvs)
        rw [show ((i + 1 : Nat) : Int) = (i : Int) + 1 by omega] at qn
        have HN := Lib.hid (fun w' u (hN : ZSN w0 (lat wr u) w' (recol wr.heap.size (recol w.heap.size col c) c) c b g (k + 3 * (i - j) + 3) q (m2.lay z i (l.getD (i + 1) 0))) => And.intro (hS.trans (ZSN.pre (bel_lat0 wr u) hN)) (show Laid m (m2.lay z i (l.getD (i + 1) 0)) z l' j (i + 1) by have := hL.up hX.1 (by omega) (by omega); rw [hval] at this; exact this))
        generalize g.C z (i + 1) = X at qn qt
        generalize l.getD (i + 1) 0 = V at qt qs HN hvs
        clear hF hS hL hgv hval
        have hgt : (i : Int) < (l.length : Int) - 1 := by omega
        go_upto_region 10 with fail
        refine wp_region_lat_tail 16 (by kernel_rfl) (by kernel_rfl) ?_
        simp only [List.take_succ_cons, List.take_zero, List.drop_succ_cons, List.drop_zero]
        repeat (go_big_quiet_step (first | (go_at_call 76; exact quiet_lat_same (qn.out _)) | (go_at_call 30; exact quiet_lat_same (qt.out _))))
        refine wpQuiet_nil ?_
        intro _ hw'
        obtain ⟨n0, hw''⟩ := hw'
        subst hw''
        go_wp2_with (go_at_call 79; refine (qs.out _).mono ?_; rintro e w4 ⟨rfl, hN⟩)
        go_roundw
        case rel =>
          have hK := HN.out _ _ hN
          exact ⟨i + 1, by omega, by omega, by go_num, Lib.hid ⟨_, hK.1.mono (by omega), hK.2⟩⟩
        case measure => simp [intOf]; omega
      · obtain rfl : i = l.length - 1 := by omega
        have hge : ¬ ((l.length - 1 : Nat) : Int) < (l.length : Int) - 1 := by omega
        have hk2 : k + 3 * (l.length - 1 - j) ≤ k + 900 := by omega
        have hS2 := hS.mono hk2
        have hF := hS2.1.fo
        have hH0 : 0 ≤ g.H s := by unfold ZG.H; omega
        have hH1 : g.H s ≤ 2000000 := by have := (geo_le hG).2; have := hX.2.2.2.2; unfold ZG.H; omega
        have k0 : ∀ u, (lat wr u).cell? ⟨b.Z, 0, none⟩ = some (.pointer (some ⟨b.T, 0, none⟩)) := fun u => (hF.z.below (bel_lat0 wr u) hF.z.lt).cell 0
        have kH : ∀ u, (lat wr u).cell? ⟨b.Z, 5, none⟩ = some (.func (.func 77) #[] #[.pointer (some ⟨b.H, 0, none⟩)]) := fun u => (hF.z.below (bel_lat0 wr u) hF.z.lt).cell 5
        have qn := Lib.hid (fun u => home_any (hF.below (bel_lat0 wr u)) hG s hX.2.2.2.2)
        have qt := Lib.hid (fun u => zs_set (hS2.1.below (bel_lat0 wr u) c) (by omega) (g.H s) 0 (fun cs hc => hc.setH' hX.2.2.2.2 0))
        have HL := Lib.hid (And.intro hS2 hL)
        clear hS hS2 hL hF hX
        go_upto_region 11 with fail
        refine wp_region_lat_tail 10 (by kernel_rfl) (by kernel_rfl) ?_
        simp only [List.take_succ_cons, List.take_zero, List.drop_succ_cons, List.drop_zero]
        repeat (go_big_quiet_step (first | (go_at_call 77; exact quiet_lat_same (qn.out _))))
        refine wpQuiet_nil ?_
        intro _ hw'
        obtain ⟨n0, hw''⟩ := hw'
        subst hw''
        go_upto_region 12 with (go_at_call 22; refine (qt.out _).mono ?_; rintro e w4 ⟨rfl, hN⟩)
        have HN4 := Lib.hid (ZSN.trans HL.out.1 (ZSN.pre (bel_lat0 wr n0) hN))
        have hF := HN4.out.1.fo
        clear hN qn qt k0 kH
        have k0 : ∀ u, (lat w4 u).cell? ⟨b.Z, 0, none⟩ = some (.pointer (some ⟨b.T, 0, none⟩)) := fun u => (hF.z.below (bel_lat0 w4 u) hF.z.lt).cell 0
        have kH : ∀ u, (lat w4 u).cell? ⟨b.Z, 5, none⟩ = some (.func (.func 77) #[] #[.pointer (some ⟨b.H, 0, none⟩)]) := fun u => (hF.z.below (bel_lat0 w4 u) hF.z.lt).cell 5
        have qn := Lib.hid (fun u => home_any (hF.below (bel_lat0 w4 u)) hG s HX.out.2.2.2.2)
        have qt := Lib.hid (fun u => zs_set (HN4.out.1.below (bel_lat0 w4 u) c) (by omega) (g.H s + 1) 0 (fun cs hc => hc.setP' HX.out.2.2.2.2 0))
        clear hF
        refine wp_region_lat_tail 11 (by kernel_rfl) (by kernel_rfl) ?_
        simp only [List.take_succ_cons, List.take_zero, List.drop_succ_cons, List.drop_zero]
        repeat (go_big_quiet_step (first | (go_at_call 77; exact quiet_lat_same (qn.out _))))
        refine wpQuiet_nil ?_
        intro _ hw'
        obtain ⟨n0, hw''⟩ := hw'
        subst hw''
        go_upto_region 13 with (go_at_call 22; refine (qt.out _).mono ?_; rintro e w5 ⟨rfl, hN⟩)
        have HN5 := Lib.hid (ZSN.trans HN4.out (ZSN.pre (bel_lat0 w4 n0) hN))
        have hF := HN5.out.1.fo
        clear hN qn qt k0 kH
        have k0 : ∀ u, (lat w5 u).cell? ⟨b.Z, 0, none⟩ = some (.pointer (some ⟨b.T, 0, none⟩)) := fun u => (hF.z.below (bel_lat0 w5 u) hF.z.lt).cell 0
        have kN : ∀ u, (lat w5 u).cell? ⟨b.Z, 3, none⟩ = some (.func (.func 75) #[] #[.pointer (some ⟨b.F, 0, none⟩)]) := fun u => (hF.z.below (bel_lat0 w5 u) hF.z.lt).cell 3
        have qn := Lib.hid (fun u => count_any (hF.below (bel_lat0 w5 u)) hG z hz)
        have qt := Lib.hid (fun u => zs_set (HN5.out.1.below (bel_lat0 w5 u) c) (by omega) (g.N z) ((l.length : Int) - 1) (fun cs hc => hc.setN' hz _))
        clear hF
        refine wp_region_lat_tail 11 (by kernel_rfl) (by kernel_rfl) ?_
        simp only [List.take_succ_cons, List.take_zero, List.drop_succ_cons, List.drop_zero]
        repeat (go_big_quiet_step (first | (go_at_call 75; exact quiet_lat_same (qn.out _))))
        refine wpQuiet_nil ?_
        intro _ hw'
        obtain ⟨n0, hw''⟩ := hw'
        subst hw''
        go_wp2_with (go_at_call 22; refine (qt.out _).mono ?_; rintro e w6 ⟨rfl, hN⟩)
        have HN6 := Lib.hid (ZSN.trans HN5.out (ZSN.pre (bel_lat0 w5 n0) hN))
        clear hN
        go_ret
        exact ⟨rfl, _, HN6.out.mono (by omega), FIN.out _ HL.out.2⟩
  obtain ⟨u0, hu0⟩ := lat_of (Below.refl w.heap.size w)
  have := key u0
  rw [← hu0] at this
  exact this
theorem take_nil (w : World) (s : Int) : Calls Try.prog 40 #[.pointer none, .int .i64 s] w fun e w' => e = .returned (.int .i64 1) ∧ w = w' := by
  go_enter Try.func40, Try.ntmps40
  go_wp2
  go_ret
  exact ⟨rfl, rfl⟩
theorem take_none {B : Nat} (s : Int) (hw : Calls Try.prog 38 #[.pointer (some ⟨B, 0, none⟩), .int .i64 s] w fun e w' => e = .returned (.tuple #[.int .i64 0, .int .i64 0, .bool false]) ∧ Below w.heap.size w w') : Calls Try.prog 40 #[.pointer (some ⟨B, 0, none⟩), .int .i64 s] w fun e w' => e = .returned (.int .i64 5) ∧ Below w.heap.size w w' := by
  have ha := Lib.hid (calls_lat hw)
  clear hw
  go_enter Try.func40, Try.ntmps40
  go_wp2_with (go_at_call 38; refine ha.out.mono ?_; rintro e w' ⟨rfl, nu, rfl⟩)
  go_ret
  exact ⟨rfl, bel_lat0 w nu⟩
theorem put_nil (w : World) (z i s : Int) : Calls Try.prog 37 #[.pointer none, .int .i64 z, .int .i64 i, .int .i64 s] w fun e w' => e = .returned (.int .i64 1) ∧ w = w' := by
  go_enter Try.func37, Try.ntmps37
  go_wp2
  go_ret
  exact ⟨rfl, rfl⟩
theorem put_zone (h : ZS w0 w col c b g k q m) (z i s : Int) (hz : z < 0 ∨ (g.zones : Int) ≤ z) : Calls Try.prog 37 #[.pointer (some ⟨b.Z, 0, none⟩), .int .i64 z, .int .i64 i, .int .i64 s] w fun e w' => e = .returned (.int .i64 2) ∧ Below w.heap.size w w' := by
  have hh := Lib.hid (has_out h.fo z hz)
  clear h hz
  go_enter Try.func37, Try.ntmps37
  go_wp2_with (go_at_call 78; refine hh.out.mono ?_; rintro e w' ⟨rfl, rfl⟩)
  go_ret
  exact ⟨rfl, Below.refl _ _⟩
theorem put_slot (h : ZS w0 w col c b g k q m) (z : Nat) (i s : Int) (hz : z < g.zones) (hs : s < 0 ∨ (g.slots : Int) ≤ s) : Calls Try.prog 37 #[.pointer (some ⟨b.Z, 0, none⟩), .int .i64 (z : Int), .int .i64 i, .int .i64 s] w fun e w' => e = .returned (.int .i64 2) ∧ Below w.heap.size w w' := by
  have hh := Lib.hid (has_in h.fo z hz)
  have hF := h.fo
  have ks : w.cell? ⟨b.Z, 2, none⟩ = some (.int .i64 (g.slots : Int)) := hF.z.cell 2
  clear h hF
  by_cases h0 : s < 0
  · go_enter Try.func37, Try.ntmps37
    go_wp2_with (go_at_call 78; refine hh.out.mono ?_; rintro e w' ⟨rfl, rfl⟩)
    go_ret
    exact ⟨rfl, Below.refl _ _⟩
  · have h1 : 0 ≤ s := by omega
    have h2 : decide (s < 0) = false := by simp; omega
    have h3 : decide ((g.slots : Int) ≤ s) = true := by simp; omega
    clear hs h0
    go_enter Try.func37, Try.ntmps37
    go_wp2_with (go_at_call 78; refine hh.out.mono ?_; rintro e w' ⟨rfl, rfl⟩)
    go_ret
    exact ⟨rfl, Below.refl _ _⟩
theorem put_at (h : ZS w0 w col c b g k q m) (z s : Nat) (i : Int) (hz : z < g.zones) (hs : s < g.slots) (hi : i < -1 ∨ m.N z < i) : Calls Try.prog 37 #[.pointer (some ⟨b.Z, 0, none⟩), .int .i64 (z : Int), .int .i64 i, .int .i64 (s : Int)] w fun e w' => e = .returned (.int .i64 2) ∧ Below w.heap.size w w' := by
  have hh := Lib.hid (has_in h.fo z hz)
  have hl := Lib.hid (calls_lat (zlen_in h z hz))
  have hF := h.fo
  have ks : w.cell? ⟨b.Z, 2, none⟩ = some (.int .i64 (g.slots : Int)) := hF.z.cell 2
  have hs0 : (0 : Int) ≤ s := by omega
  have hs1 : (s : Int) < g.slots := by omega
  generalize m.N z = V at hl hi
  clear h hF
  by_cases h0 : i < -1
  · go_enter Try.func37, Try.ntmps37
    go_wp2_with (go_at_call 78; refine hh.out.mono ?_; rintro e w' ⟨rfl, rfl⟩)
    go_ret
    exact ⟨rfl, Below.refl _ _⟩
  · have h1 : -1 ≤ i := by omega
    have h2 : V < i := by omega
    clear hi h0
    go_enter Try.func37, Try.ntmps37
    go_wp2_with (first | (go_at_call 78; refine hh.out.mono ?_; rintro e w' ⟨rfl, rfl⟩) | (go_at_call 42; refine hl.out.mono ?_; rintro e w' ⟨rfl, nu, rfl⟩))
    go_ret
    exact ⟨rfl, bel_lat0 w nu⟩
theorem put_twice (h : ZS w0 w col c b g k q m) (z s x j : Nat) (i : Int) (hz : z < g.zones) (hs : s < g.slots) (hx : x < g.zones) (hH : m.H s = (x : Int) + 1) (hP : m.P s = j) (hi : -1 ≤ i) (hi2 : i ≤ m.N z) : Calls Try.prog 37 #[.pointer (some ⟨b.Z, 0, none⟩), .int .i64 (z : Int), .int .i64 i, .int .i64 (s : Int)] w fun e w' => e = .returned (.int .i64 11) ∧ Below w.heap.size w w' := by
  have hh := Lib.hid (has_in h.fo z hz)
  have hl := Lib.hid (calls_lat (zlen_in h z hz))
  have hw := Lib.hid (fun u => calls_lat (where_yes (h.below (bel_lat0 w u) c) s x j hs hx hH hP))
  have hF := h.fo
  have ks : w.cell? ⟨b.Z, 2, none⟩ = some (.int .i64 (g.slots : Int)) := hF.z.cell 2
  have hs0 : (0 : Int) ≤ s := by omega
  have hs1 : (s : Int) < g.slots := by omega
  generalize m.N z = V at hl hi2
  clear h hF hH hP
  go_enter Try.func37, Try.ntmps37
  go_wp2_with (first | (go_at_call 78; refine hh.out.mono ?_; rintro e w' ⟨rfl, rfl⟩) | (go_at_call 42; refine hl.out.mono ?_; rintro e w' ⟨rfl, nu, rfl⟩) | (go_at_call 38; refine (hw.out _).mono ?_; rintro e w' ⟨rfl, nv, rfl⟩))
  go_ret
  exact ⟨rfl, bel_lat0 w _⟩
end
end Go.Proofs.Ytfkkkndigkchcaa
