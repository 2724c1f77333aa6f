/- The walk of zones' Reorder. No condition. -/
import Derived.Test.YtfkkkndigkchcaaZoneC
import Derived.Laws.EntriesVeiled
namespace Go.Proofs.Ytfkkkndigkchcaa
open Go.RowKit
attribute [local irreducible] Calls

/-! Which rows of places turn a list. -/
def permGo : List Int → List Bool → Bool
  | [], _ => true
  | k :: ks, sn => if k < 0 ∨ (sn.length : Int) ≤ k then false else if sn.getD k.toNat false then false else permGo ks (sn.set k.toNat true)
def permOk (pm : List Int) (n : Nat) : Bool := decide (pm.length = n) && permGo pm (List.replicate n false)
theorem permGo_iff (pm : List Int) (sn : List Bool) : permGo pm sn = true ↔ (∀ k ∈ pm, 0 ≤ k ∧ k < sn.length ∧ sn.getD k.toNat false = false) ∧ pm.Nodup := by
  induction pm generalizing sn with
  | nil => simp [permGo]
  | cons k ks ih =>
    unfold permGo
    by_cases h1 : k < 0 ∨ (sn.length : Int) ≤ k
    · rw [if_pos h1]
      refine ⟨fun h => (by cases h), fun h => ?_⟩
      have := h.1 k (by simp)
      omega
    · rw [if_neg h1]
      by_cases h2 : sn.getD k.toNat false = true
      · rw [if_pos h2]
        refine ⟨fun h => (by cases h), fun h => ?_⟩
        have := (h.1 k (by simp)).2.2
        rw [h2] at this; cases this
      · rw [if_neg h2, ih, List.nodup_cons]
        have hk : k.toNat < sn.length := by omega
        have hget : ∀ x : Int, 0 ≤ x → (sn.set k.toNat true).getD x.toNat false = if x = k then true else sn.getD x.toNat false := fun x hx => by
          rw [List.getD_eq_getElem?_getD, List.getElem?_set]
          by_cases e : x = k
          · subst e; simp [hk]
          · rw [if_neg (by omega), if_neg e, List.getD_eq_getElem?_getD]
        constructor
        · rintro ⟨h, hn⟩
          refine ⟨fun x hx => ?_, fun hm => ?_, hn⟩
          · rcases List.mem_cons.1 hx with rfl | hx
            · exact ⟨by omega, by omega, by simpa using h2⟩
            · have h3 := h x hx
              rw [List.length_set, hget x h3.1] at h3
              refine ⟨h3.1, h3.2.1, ?_⟩
              have := h3.2.2
              split at this
              · cases this
              · exact this
          · have h3 := h k hm
            rw [hget k h3.1, if_pos rfl] at h3
            cases h3.2.2
        · rintro ⟨h, hm, hn⟩
          refine ⟨fun x hx => ?_, hn⟩
          have h3 := h x (List.mem_cons_of_mem _ hx)
          rw [List.length_set, hget x h3.1]
          exact ⟨h3.1, h3.2.1, (if_neg (fun e => hm (by rw [← e]; exact hx))).trans h3.2.2⟩
theorem permOk_iff (pm : List Int) (n : Nat) : permOk pm n = true ↔ pm.length = n ∧ (∀ k ∈ pm, 0 ≤ k ∧ k < n) ∧ pm.Nodup := by
  unfold permOk
  rw [Bool.and_eq_true, decide_eq_true_iff, permGo_iff]
  refine and_congr_right fun _ => and_congr_left fun _ => ⟨fun h k hk => ?_, fun h k hk => ?_⟩
  · have := h k hk; rw [List.length_replicate] at this; exact ⟨this.1, this.2.1⟩
  · refine ⟨(h k hk).1, by rw [List.length_replicate]; exact (h k hk).2, ?_⟩
    rw [List.getD_eq_getElem?_getD, List.getElem?_replicate]; split <;> rfl
theorem perm_all {pm : List Int} {n : Nat} (h : permOk pm n = true) {j : Nat} (hj : j < n) : (j : Int) ∈ pm := by
  obtain ⟨h1, h2, h3⟩ := (permOk_iff pm n).1 h
  refine Classical.byContradiction fun hno => ?_
  have hm : (((j : Int) :: pm).map Int.toNat).Nodup := by
    rw [List.map_cons, List.nodup_cons]
    refine ⟨fun hm => ?_, ?_⟩
    · obtain ⟨x, hx, e⟩ := List.mem_map.1 hm
      have := h2 x hx
      exact hno (by rw [show (j : Int) = x by omega]; exact hx)
    · rw [List.nodup_iff_pairwise_ne, List.pairwise_map]
      refine (List.nodup_iff_pairwise_ne.1 h3).imp_of_mem fun {a b} ha hb hab e => hab ?_
      have := h2 a ha; have := h2 b hb; omega
  have := nodup_len n _ hm fun s hs => by
    obtain ⟨x, hx, rfl⟩ := List.mem_map.1 hs
    rcases List.mem_cons.1 hx with rfl | hx
    · omega
    · have := h2 x hx; omega
  simp at this; omega
/-- A list turned. -/
def reL (l : List Nat) (pm : List Int) : List Nat := pm.map fun k => l.getD k.toNat 0
theorem reL_len (l : List Nat) (pm : List Int) : (reL l pm).length = pm.length := by simp [reL]
theorem reL_get (l : List Nat) (pm : List Int) {j : Nat} (hj : j < pm.length) : (reL l pm).getD j 0 = l.getD (pm.getD j 0).toNat 0 := by
  simp [reL, List.getD_eq_getElem?_getD, hj]
theorem reL_nodup {l : List Nat} {pm : List Int} (hn : l.Nodup) (h : permOk pm l.length = true) : (reL l pm).Nodup := by
  obtain ⟨_, h2, h3⟩ := (permOk_iff pm l.length).1 h
  unfold reL
  rw [List.nodup_iff_pairwise_ne, List.pairwise_map]
  refine (List.nodup_iff_pairwise_ne.1 h3).imp_of_mem fun {a b} ha hb hab e => hab ?_
  have h4 := h2 a ha; have h5 := h2 b hb
  have := getD_inj hn (i := a.toNat) (j := b.toNat) (by omega) (by omega) e
  omega
theorem reL_sub {l : List Nat} {pm : List Int} (h : permOk pm l.length = true) {s : Nat} (hs : s ∈ reL l pm) : s ∈ l := by
  obtain ⟨k, hk, rfl⟩ := List.mem_map.1 hs
  have := ((permOk_iff pm l.length).1 h).2.1 k hk
  exact getD_mem' (by omega)
theorem reL_sup {l : List Nat} {pm : List Int} (h : permOk pm l.length = true) {s : Nat} (hs : s ∈ l) : s ∈ reL l pm := by
  obtain ⟨j, hj, rfl⟩ := mem_getD' hs
  exact List.mem_map.2 ⟨_, perm_all h hj, by rw [Int.toNat_natCast]⟩
theorem permGo_drop (pm : List Int) (sn : List Bool) (i : Nat) (hi : i < pm.length) : permGo (pm.drop i) sn = if pm.getD i 0 < 0 ∨ (sn.length : Int) ≤ pm.getD i 0 then false else if sn.getD (pm.getD i 0).toNat false then false else permGo (pm.drop (i + 1)) (sn.set (pm.getD i 0).toNat true) := by
  rw [List.drop_eq_getElem_cons hi, List.getD_eq_getElem?_getD, List.getElem?_eq_getElem hi]
  rfl
theorem Moved.cell {a b : World} {S : Nat → Prop} (h : Moved a b S) {p : Addr} (hp : p.block < a.heap.size) (hn : ¬ S p.block) : b.cell? p = a.cell? p := by
  simp only [World.cell?, h.block _ hp hn]
/-- Zones of other colours. -/
theorem ZS.col {w0 w : World} {col col' : Nat → Nat} {c k : Nat} {b : ZB} {g : ZG} {q : List Int × List (Int × Int)} {m : ZM} (h : ZS w0 w col c b g k q m) (hc : ∀ j, j < w.heap.size → col j = c → col' j = c) : ZS w0 w col' c b g k q m := by
  obtain ⟨O, p, h1, h2⟩ := h
  exact ⟨O, p, ⟨fun j hj => hc j (h1.t.base hj).2 (h1.oc j hj), fun j hj => hc j (h1.f.lt hj) (h1.bc j hj), h1.t, h1.o, h1.f, h1.h, h1.g⟩, h2⟩
theorem ZSN.pre' {w0 w w1 w' : World} {col : Nat → Nat} {c a k : Nat} {b : ZB} {g : ZG} {q : List Int × List (Int × Int)} {m : ZM} (hb : Below w.heap.size w w1) (h : ZSN w0 w1 w' (recol w.heap.size col a) c b g k q m) : ZSN w0 w w' col c b g k q m := by
  refine ⟨h.1.col fun j _ hc => ?_, (Moved.of_below hb _).trans h.2 fun j hj => ?_⟩
  · by_cases h1 : j < w.heap.size
    · rw [recol_lt (Nat.lt_of_lt_of_le h1 hb.size), recol_lt h1] at hc
      rw [recol_lt h1]; exact hc
    · exact recol_ge (by omega)
  · by_cases hl : j < w.heap.size
    · rw [recol_lt hl] at hj; exact .inl hj
    · exact .inr (by omega)
section
variable {w0 w : World} {col : Nat → Nat} {c k : Nat} {b : ZB} {g : ZG} {q : List Int × List (Int × Int)} {m : ZM} {L : List (List Nat)}
theorem re_nil (w : World) (z : Int) (v : Value) : Calls Try.prog 63 #[.pointer none, .int .i64 z, v] w fun e w' => e = .returned (.int .i64 1) ∧ Below w.heap.size w w' := by
  go_enter Try.func63, Try.ntmps63
  go_wp2
  go_ret
  exact ⟨rfl, Below.refl _ _⟩
theorem re_zone (h : ZS w0 w col c b g k q m) (z : Int) (hz : z < 0 ∨ (g.zones : Int) ≤ z) (v : Value) : Calls Try.prog 63 #[.pointer (some ⟨b.Z, 0, none⟩), .int .i64 z, v] w fun e w' => e = .returned (.int .i64 2) ∧ Below w.heap.size w w' := by
  have hh := Lib.hid (has_out h.fo z hz)
  clear h hz
  go_enter Try.func63, Try.ntmps63
  go_wp2_with (go_at_call 78; refine hh.out.mono ?_; rintro e w' ⟨rfl, rfl⟩)
  go_ret
  exact ⟨rfl, Below.refl _ _⟩
theorem re_len (h : ZS w0 w col c b g k q m) (z : Nat) (hz : z < g.zones) (l : Nat) (hl : m.N z = l) (x : Option Addr) (n c' : Nat) (hn : n ≠ l) : Calls Try.prog 63 #[.pointer (some ⟨b.Z, 0, none⟩), .int .i64 (z : Int), .slice x n c'] w fun e w' => e = .returned (.int .i64 2) ∧ Below w.heap.size w w' := by
  have hh := Lib.hid (has_in h.fo z hz)
  have hl' := Lib.hid (calls_lat (hl ▸ zlen_in h z hz))
  have hB : ((n : Int) != (l : Int)) = true := by simp; omega
  clear h hz hl hn
  go_enter Try.func63, Try.ntmps63
  go_wp2_with (first | (go_at_call 78; refine hh.out.mono ?_; rintro e w' ⟨rfl, rfl⟩) | (go_at_call 42; refine hl'.out.mono ?_; rintro e w' ⟨rfl, nu, rfl⟩))
  go_ret
  exact ⟨rfl, bel_lat0 w nu⟩
set_option maxRecDepth 100000 in
set_option maxHeartbeats 4000000 in
theorem re_any (h : ZS w0 w col c b g k q m) (hr : ZRep g L m) (hk : k ≤ 800000000) (z : Nat) (hz : z < g.zones) (l : List Nat) (hl : L.getD z [] = l) (hl0 : 0 < l.length) (pm : List Int) (hpl : pm.length = l.length) (pb po pc : Nat) (hpb : pb < w.heap.size) (hpk : col pb ≠ c)
    (hpc : ∀ j, j < pm.length → w.cell? ⟨pb, po + j, none⟩ = some (.int .i64 (pm.getD j 0))) :
    Calls Try.prog 63 #[.pointer (some ⟨b.Z, 0, none⟩), .int .i64 (z : Int), .slice (some ⟨pb, po, none⟩) pm.length pc] w fun e w' =>
      (permOk pm l.length = true ∧ e = .returned (.int .i64 0) ∧ ∃ m', ZSN w0 w w' col c b g (k + 1000) q m' ∧ ZRep g (L.set z (reL l pm)) m') ∨ (permOk pm l.length = false ∧ e = .returned (.int .i64 2) ∧ Below w.heap.size w w') := by
  have hle : l.length ≤ g.slots := by rw [← hl]; exact hr.le z
  have hlts : ∀ t ∈ l, t < g.slots := fun t ht => hr.sl z t (by rw [hl]; exact ht)
  have hnl := hr.nodup z
  rw [hl] at hnl
  have hn : m.N z = (l.length : Nat) := by rw [hr.cnt z hz, hl]
  have hG := h.sm
  have hs2 := hG.s2
  have hcell : ∀ i, i < l.length → m.C z i = (l.getD i 0 : Nat) := fun i hi => by rw [hr.cell z i hz (by rw [hl]; exact hi), hl]
  have hpo : permOk pm l.length = permGo pm (List.replicate l.length false) := by unfold permOk; rw [decide_eq_true hpl, Bool.true_and]
  have FIN : Hid (permOk pm l.length = true → ∀ m2, Laid m m2 z (reL l pm) 0 l.length → ZRep g (L.set z (reL l pm)) m2) := Lib.hid fun hp m2 hL => by
    refine hr.fin hz (reL_nodup hnl hp) (fun t ht => hlts t (reL_sub hp ht)) hL (by rw [reL_len]; omega) (fun i hi hi2 => by rw [reL_len] at hi; omega) (fun t ht => .inl (by rw [hl]; exact reL_sub hp ht)) (fun x hx => ?_) rfl (fun t _ => ⟨rfl, rfl⟩) (fun t ht ht2 => absurd (reL_sup hp (by rw [← hl]; exact ht)) ht2)
    rw [hL.n, reL_len, hpl]
    by_cases e : x = z
    · rw [if_pos e, e]; exact hn
    · rw [if_neg e]
  have hmb := run_make_arr (P := Try.prog) 112 4 (.bool false) 1 Try.underlying112 (by kernel_rfl) rfl l.length (by omega) (by omega)
  have hh := Lib.hid (has_in h.fo z hz)
  have hlen' := Lib.hid (calls_lat (hn ▸ zlen_in h z hz))
  have hli := Lib.hid (fun w1 (hb : Below w.heap.size w w1) => zlist_in (h.below hb c) z hz l hn hcell hle)
  have HMB := Lib.hid hmb
  have HX := Lib.hid (And.intro h (And.intro hcell (And.intro hnl (And.intro hlts (And.intro hpk (And.intro hpc (And.intro hpb hpo)))))))
  have hB : ((l.length : Int) != (l.length : Int)) = false := by simp
  have hl256 : l.length ≤ 256 := by omega
  clear hr hn hcell hnl hlts hpk hpc hmb hl hpb hpo
  rw [hpl]
  go_enter Try.func63, Try.ntmps63
  go_upto_region 6 with (first | (go_at_call 78; refine hh.out.mono ?_; rintro e w' ⟨rfl, rfl⟩) | (go_at_call 42; refine hlen'.out.mono ?_; rintro e w' ⟨rfl, nu, rfl⟩) | (go_at_call 39; refine (hli.out _ (bel_lat0 w nu)).mono ?_; rintro e w1 ⟨r, rfl, hrow, hbel⟩))
  obtain ⟨gb, gc, rfl⟩ := hrow.form (by rw [zl_len']; exact hl0)
  rw [zl_len'] at hrow ⊢
  have hB1 : Below w.heap.size w w1 := fb_call (bel_lat0 w nu) hbel
  have hgb := hrow.base
  have hgb1 : w.heap.size ≤ gb := Nat.le_trans (bel_lat0 w nu).size hgb.1
  have hgb2 := hgb.2
  have HR := Lib.hid (And.intro hB1 hrow)
  clear hrow hbel hB1 hgb hh hlen' hli
  have hmb := HMB.out w1
  go_wp2
  clear hmb
  go_loopw [37] (fun i wr => ∃ (i' : Nat) (sn : List Bool), i' ≤ l.length ∧ i = .int .i64 i' ∧ Hid (sn.length = l.length) ∧ Arr wr w1.heap.size 4 (sn.map Value.bool) ∧ Hid (permGo (pm.drop i') sn = permGo pm (List.replicate l.length false)) ∧ Below w1.heap.size w1 wr) (fun i _ => l.length - (intOf i).toNat)
  case atStart =>
    refine ⟨0, List.replicate l.length false, Nat.zero_le _, rfl, by simp [Hid], ?_, rfl, (Below.refl _ _).alloc (Nat.le_refl _) _⟩
    have := Arr.new w1 4 (List.replicate l.length (.bool false))
    simpa using this
  case round =>
    obtain ⟨i, sn, hi', rfl, hsl, hsn, hgo, hbel⟩ := hrel
    by_cases hlt : i < l.length
    · have cp : wr.cell? ⟨pb, po + i, none⟩ = some (.int .i64 (pm.getD i 0)) := by
        have h1 : pb < w.heap.size := HX.out.2.2.2.2.2.2.1
        rw [((HR.out.1.trans (hbel.mono HR.out.1.size)).cell (p := ⟨pb, po + i, none⟩) h1)]
        exact HX.out.2.2.2.2.2.1 i (by omega)
      have hd := permGo_drop pm sn i (by omega)
      obtain ⟨x, hx⟩ : ∃ x, pm.getD i 0 = x := ⟨_, rfl⟩
      rw [hx] at cp hd
      have i0 : (0 : Int) ≤ i := by omega
      have i1 : (i : Int) < l.length := by omega
      have HG := Lib.hid (And.intro hgo (And.intro hd (And.intro hsn hbel)))
      clear hgo hd hx hbel
      have hsl' := hsl.out
      by_cases hx0 : x < 0 ∨ (l.length : Int) ≤ x
      · have HBAD := Lib.hid (show permOk pm l.length = false by
          rw [HX.out.2.2.2.2.2.2.2, ← HG.out.1.out, HG.out.2.1, if_pos (by rw [hsl']; exact hx0)])
        by_cases hx1 : x < 0
        · clear hx0 hsl'
          go_wp2
          go_ret
          exact .inr ⟨HBAD.out, rfl, HR.out.1.trans (HG.out.2.2.2.mono HR.out.1.size)⟩
        · have hx2 : 0 ≤ x := by omega
          have hx3 : (l.length : Int) ≤ x := by omega
          clear hx0 hx1 hsl'
          go_wp2
          go_ret
          exact .inr ⟨HBAD.out, rfl, HR.out.1.trans (HG.out.2.2.2.mono HR.out.1.size)⟩
      · obtain ⟨y, rfl⟩ := Int.eq_ofNat_of_zero_le (show 0 ≤ x by omega)
        have hy : y < l.length := by omega
        have hcs := hsn.bool (j := y) (by omega)
        have hfs := hsn.frozen y
        have hset := hsn.setBool y true
        have y0 : (0 : Int) ≤ y := by omega
        have y1 : (y : Int) < l.length := by omega
        have y2 : decide ((l.length : Int) ≤ y) = false := by simp; omega
        obtain ⟨bb, hbb⟩ : ∃ bb, sn.getD y false = bb := ⟨_, rfl⟩
        rw [hbb] at hcs
        have HY := Lib.hid (And.intro hx0 (And.intro hbb (And.intro hsl' hset)))
        clear hx0 hbb hsl' hset hsn
        cases bb with
        | true =>
          go_wp2
          go_ret
          refine .inr ⟨?_, rfl, HR.out.1.trans (HG.out.2.2.2.mono HR.out.1.size)⟩
          rw [HX.out.2.2.2.2.2.2.2, ← HG.out.1.out, HG.out.2.1, if_neg (by rw [HY.out.2.2.1]; exact HY.out.1), Int.toNat_natCast, HY.out.2.1, if_pos rfl]
        | false =>
          go_wp2
          go_roundw
          case rel =>
            refine ⟨i + 1, sn.set y true, by omega, by go_num, by show (sn.set y true).length = _; rw [List.length_set]; exact HY.out.2.2.1, HY.out.2.2.2, ?_, HG.out.2.2.2.setCell (Nat.le_refl _) _⟩
            have h1 := HG.out.2.1
            rw [if_neg (by rw [HY.out.2.2.1]; exact HY.out.1), Int.toNat_natCast, HY.out.2.1, if_neg (by simp)] at h1
            show permGo _ _ = _
            rw [← h1]; exact HG.out.1.out
          case measure => simp [intOf]; omega
    · obtain rfl : i = l.length := by omega
      have HOK := Lib.hid (show permOk pm l.length = true by
        rw [HX.out.2.2.2.2.2.2.2, ← hgo.out, List.drop_of_length_le (by omega)]; rfl)
      have HB2 : Hid (Below w.heap.size w wr ∧ IRow wr (w.heap.size) (.slice (some ⟨gb, 0, none⟩) l.length gc) (l.map fun n : Nat => (n : Int))) := Lib.hid ⟨HR.out.1.trans (hbel.mono HR.out.1.size), own_mono (HR.out.2.below hbel) (bel_lat0 w nu).size⟩
      obtain ⟨wa, rfl⟩ : ∃ wo : World, wo = wr := ⟨_, rfl⟩
      have hgb3 : gb < wa.heap.size := Nat.lt_of_lt_of_le hgb2 hbel.size
      clear hgo hsn hsl hbel HR hlt hi' hgb2
      go_wp2
      have hS0 : ZS w0 wa (recol w.heap.size col (c + 1)) c b g k q m := HX.out.1.below HB2.out.1 (c + 1)
      have HS0 := Lib.hid hS0
      clear hS0
      go_loopw [61] (fun i wr => ∃ i' : Nat, i' ≤ l.length ∧ i = .int .i64 i' ∧ Hid (∃ m2, ZSN w0 wa wr (recol w.heap.size col (c + 1)) c b g (k + 3 * i') q m2 ∧ Laid m m2 z (reL l pm) 0 i')) (fun i _ => l.length - (intOf i).toNat)
      case atStart => exact ⟨0, Nat.zero_le _, rfl, Lib.hid ⟨m, (ZSN.same HS0.out (Below.refl _ _)).mono (by omega), Laid.nil m z _ _⟩⟩
      case round =>
        obtain ⟨i, hi', rfl, hst⟩ := hrel
        obtain ⟨m2, hS, hL⟩ := hst.out
        clear hst
        by_cases hlt : i < l.length
        · have hpb' : pb < w.heap.size := HX.out.2.2.2.2.2.2.1
          have hpk' : col pb ≠ c := HX.out.2.2.2.2.1
          have hbs := HB2.out.1.size
          have cp : wr.cell? ⟨pb, po + i, none⟩ = some (.int .i64 (pm.getD i 0)) := by
            rw [hS.2.cell (p := ⟨pb, po + i, none⟩) (Nat.lt_of_lt_of_le hpb' hbs) (by show recol _ _ _ pb ≠ c; rw [recol_lt hpb']; exact hpk'), HB2.out.1.cell (p := ⟨pb, po + i, none⟩) hpb']
            exact HX.out.2.2.2.2.2.1 i (by omega)
          have hrg := ((permOk_iff pm l.length).1 HOK.out).2.1 (pm.getD i 0) (by rw [List.getD_eq_getElem?_getD, List.getElem?_eq_getElem (by omega : i < pm.length)]; exact List.getElem_mem _)
          have hrv := reL_get l pm (j := i) (by omega)
          obtain ⟨y, hy⟩ := Int.eq_ofNat_of_zero_le hrg.1
          rw [hy] at cp hrg hrv
          rw [Int.toNat_natCast] at hrv
          have hyl : y < l.length := by omega
          have cg : wr.cell? ⟨gb, y, none⟩ = some (.int .i64 (l.getD y 0 : Nat)) := by
            rw [hS.2.cell (p := ⟨gb, y, none⟩) hgb3 (by show recol _ _ _ gb ≠ c; rw [recol_ge hgb1]; omega)]
            have := IRow.cell HB2.out.2 (j := y) (by rw [zl_len']; exact hyl)
            rw [this]
            simp [List.getD_eq_getElem?_getD, hyl]
          have hvs : l.getD y 0 < g.slots := HX.out.2.2.2.1 _ (getD_mem' hyl)
          have hrn := reL_nodup HX.out.2.2.1 HOK.out
          have hrl := reL_len l pm
          have hup := hL.up hrn (Nat.zero_le _) (by omega)
          rw [hrv] at hup
          have qs := Lib.hid (lay_any hS.1 (by omega) z i (l.getD y 0) hz (by omega) hvs)
          have HN := Lib.hid (fun w' (hN : ZSN w0 wr w' (recol wa.heap.size (recol w.heap.size col (c + 1)) c) c b g (k + 3 * i + 3) q (m2.lay z i (l.getD y 0))) => And.intro (hS.trans hN) hup)
          generalize l.getD y 0 = V at qs HN cg
          have i0 : (0 : Int) ≤ i := by omega
          have i1 : (i : Int) < l.length := by omega
          have y0 : (0 : Int) ≤ y := by omega
          have y1 : (y : Int) < l.length := by omega
          clear hup hrv hy hrg hS hL hvs hrn hrl hpb' hpk' hbs
          go_wp2_with (go_at_call 79; refine qs.out.mono ?_; rintro e w3 ⟨rfl, hN⟩)
          go_roundw
          case rel =>
            have hK := HN.out _ hN
            exact ⟨i + 1, by omega, by go_num, Lib.hid ⟨_, hK.1.mono (by omega), hK.2⟩⟩
          case measure => simp [intOf]; omega
        · obtain rfl : i = l.length := by omega
          have HK := Lib.hid (And.intro hS hL)
          clear hS hL
          go_wp2
          go_ret
          exact .inl ⟨HOK.out, rfl, m2, (ZSN.pre' HB2.out.1 HK.out.1).mono (by omega), FIN.out HOK.out m2 HK.out.2⟩
theorem re_empty (h : ZS w0 w col c b g k q m) (z : Nat) (hz : z < g.zones) (hn : m.N z = 0) (x : Option Addr) (c' : Nat) :
    Calls Try.prog 63 #[.pointer (some ⟨b.Z, 0, none⟩), .int .i64 (z : Int), .slice x 0 c'] w fun e w' => e = .returned (.int .i64 0) ∧ Below w.heap.size w w' := by
  have hmb := run_make_arr (P := Try.prog) 112 4 (.bool false) 1 Try.underlying112 (by kernel_rfl) rfl 0 (by omega) (by omega)
  have hh := Lib.hid (has_in h.fo z hz)
  have hlen' := Lib.hid (calls_lat (hn ▸ zlen_in h z hz))
  have hli := Lib.hid (fun w1 (hb : Below w.heap.size w w1) => zlist_in (h.below hb c) z hz [] hn (fun j hj => by cases hj) (Nat.zero_le _))
  have HMB := Lib.hid hmb
  clear hn hmb h
  go_enter Try.func63, Try.ntmps63
  go_upto_region 6 with (first | (go_at_call 78; refine hh.out.mono ?_; rintro e w' ⟨rfl, rfl⟩) | (go_at_call 42; refine hlen'.out.mono ?_; rintro e w' ⟨rfl, nu, rfl⟩) | (go_at_call 39; refine (hli.out _ (bel_lat0 w nu)).mono ?_; rintro e w1 ⟨r, rfl, hrow, hbel⟩))
  obtain ⟨xa, xc, rfl⟩ := hrow.any
  have HR := Lib.hid (fb_call (bel_lat0 w nu) hbel)
  clear hrow hbel hh hlen' hli
  have hmb := HMB.out w1
  simp only [Int.natCast_zero, List.map_nil, List.length_nil] at hmb ⊢
  go_wp2
  refine wp_loop_rounds 1 ?_
  rw [rounds_succ]
  go_wp2
  refine wp_loop_rounds 1 ?_
  rw [rounds_succ]
  go_wp2
  go_ret
  exact ⟨rfl, fb_alloc HR.out _⟩
end
end Go.Proofs.Ytfkkkndigkchcaa
