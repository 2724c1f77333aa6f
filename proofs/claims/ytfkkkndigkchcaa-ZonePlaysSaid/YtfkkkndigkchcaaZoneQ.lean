/- The document's zones: Put, Take. No condition. -/
import Derived.Test.YtfkkkndigkchcaaZoneR
import Derived.Deep.RegionHeld3
namespace Go.Proofs.Ytfkkkndigkchcaa
open Go.RowKit
attribute [local irreducible] Calls

section
variable {w w' : World} {base A sl : Nat} {lv : Value} {vals : List Value} {L : List (List Nat)}
theorem getD_set_any {α : Type} (l : List α) (i j : Nat) (x d : α) (hi : i < l.length) : (l.set i x).getD j d = if j = i then x else l.getD j d := by
  rw [List.getD_eq_getElem?_getD, List.getElem?_set]
  by_cases e : j = i
  · subst e; simp [hi]
  · rw [if_neg (fun h => e h.symm), if_neg e, List.getD_eq_getElem?_getD]
theorem DZ.put {B n c z : Nat} {v : Value} {l' : List Nat} (h : DZ w base A sl (.slice (some ⟨B, 0, none⟩) n c) vals L) (hz : z < L.length) (hv : IRow w base v (ints l')) :
    DZ (w.setCell ⟨B, z, none⟩ v) base A sl (.slice (some ⟨B, 0, none⟩) n c) (vals.set z v) (L.set z l') := by
  have hAB : A ≠ B := fun e => row_ne_arr h.l h.a (by decide) (by rw [e]; rfl)
  have en : n = vals.length := by
    rcases h.l.2 with ⟨hv, _⟩ | ⟨_, _, _, hv, _⟩
    · injection hv with h1 _ _; cases h1
    · injection hv
  refine ⟨h.a.set_other _ _ hAB, ?_, by rw [List.length_set, List.length_set]; exact h.n, fun j hj => ?_, h.hb⟩
  · have hl := h.l
    rw [en] at hl
    rw [List.length_set, en]
    exact (World.ownsRow.stored hl z v).1
  · rw [List.length_set] at hj
    rw [getD_set_any _ _ _ _ _ (by rw [h.n]; exact hz), getD_set_any _ _ _ _ _ hz]
    split
    · exact hv.other _ _ (fun e => row_ne hv h.l (by decide) e rfl)
    · exact (h.e j hj).other _ _ (fun e => row_ne (h.e j hj) h.l (by decide) e rfl)
theorem IRow.formz {v : Value} {l : List Int} (h : IRow w base v l) : (v = .slice none 0 0 ∧ l = []) ∨ ∃ g cap, v = .slice (some ⟨g, 0, none⟩) l.length cap ∧ l.length ≤ cap := by
  rcases h.2 with ⟨hv, h0⟩ | ⟨g, cap, cur, hv, _, _, hc, _⟩
  · exact .inl ⟨hv, List.eq_nil_of_length_eq_zero h0⟩
  · exact .inr ⟨g, cap, hv, hc⟩
theorem ints_putL (l : List Nat) (p s : Nat) : (ints l).take p ++ [(s : Int)] ++ (ints l).drop p = ints (putL l p s) := by
  unfold ints putL
  simp
theorem ints_takeL (l : List Nat) (p : Nat) : (ints l).take p ++ (ints l).drop (p + 1) = ints (takeL l p) := by
  unfold ints takeL
  simp
theorem one_ownz (w : World) (x : Int) : IRow (w.alloc (.cells #[.int .i64 x] 3)) w.heap.size (.slice (some ⟨w.heap.size, 0, none⟩) 1 1) [x] := Arr.own (vs := [.int .i64 x]) (Arr.new w 3 [.int .i64 x]) (Nat.le_refl _) (by simp [maxLen])
theorem SInts.cut {b n cap : Nat} {l : List Int} (h : SInts w (some ⟨b, 0, none⟩) n l) {p : Nat} (hc : n ≤ cap) {ao : Option Addr} (hao : ¬ cap = p → ao = some ⟨b, p, none⟩) : SInts w ao (n - p) (l.drop p) := by
  by_cases e : cap = p
  · have e1 : n - p = 0 := by omega
    have e2 : l.drop p = [] := List.drop_eq_nil_of_le (by rw [← h.1]; omega)
    rw [e1, e2]
    exact SInts.nil _ _
  · rw [hao e]
    have := h.drop (k := p)
    rw [Nat.zero_add] at this
    exact this
theorem DZ.fz {B n c : Nat} (h : DZ w base A sl (.slice (some ⟨B, 0, none⟩) n c) vals L) (j : Nat) : w.frozen? ⟨B, j, none⟩ = false := by
  have en : n = vals.length := by
    rcases h.l.2 with ⟨hv, _⟩ | ⟨_, _, _, hv, _⟩
    · injection hv with h1 _ _; cases h1
    · injection hv
  have hl := h.l
  rw [en] at hl
  exact World.ownsRow.frozenAt hl j
theorem DZ.there {B n c : Nat} (h : DZ w base A sl (.slice (some ⟨B, 0, none⟩) n c) vals L) {j : Nat} (hj : j < L.length) : ∃ u, w.cell? ⟨B, j, none⟩ = some u := by
  obtain ⟨x, c', _, e⟩ := h.rc hj
  exact ⟨_, e⟩
/-- What a writer leaves. -/
def DZN (w w' : World) (base A sl : Nat) (lv : Value) (vals : List Value) (L : List (List Nat)) (z : Nat) (l' : List Nat) : Prop :=
  ∃ v', DZ w' base A sl lv (vals.set z v') (L.set z l') ∧ Moved w w' (fun j => lv.ownBlock = some j) ∧ ∀ k, v'.ownBlock = some k → w.heap.size ≤ k
theorem dzput_zone (h : DZ w base A sl lv vals L) (ho : ZOk L sl) (z i s : Int) (hz : z < 0 ∨ (L.length : Int) ≤ z) : Calls Try.prog 67 #[.pointer (some ⟨A, 0, none⟩), .int .i64 z, .int .i64 i, .int .i64 s] w fun e w' => e = .returned (.int .i64 2) ∧ w = w' := by
  have hz2 := Lib.hid (dzone_no h ho z hz)
  clear h ho hz
  go_enter Try.func67, Try.ntmps67
  go_wp2_with (go_at_call 84; refine hz2.out.mono ?_; rintro e w' ⟨rfl, rfl⟩)
  go_ret
  exact ⟨rfl, rfl⟩
theorem dzput_arg (h : DZ w base A sl lv vals L) (ho : ZOk L sl) (z : Nat) (i s : Int) (hz : z < L.length) (hbad : (s < 0 ∨ (sl : Int) ≤ s) ∨ (i < -1 ∨ ((L.getD z []).length : Int) < i)) : Calls Try.prog 67 #[.pointer (some ⟨A, 0, none⟩), .int .i64 (z : Int), .int .i64 i, .int .i64 s] w fun e w' => e = .returned (.int .i64 2) ∧ w = w' := by
  have hz2 := Lib.hid (dzone_yes h ho z hz)
  obtain ⟨B, c, rfl⟩ := h.lf ho
  have c0 : w.cell? ⟨A, 0, none⟩ = some (.int .i64 sl) := h.a.cell 0
  have c1 : w.cell? ⟨A, 1, none⟩ = some (.slice (some ⟨B, 0, none⟩) L.length c) := h.a.cell 1
  have hn := ho.n2
  have hs2 := ho.s2
  have hle := ho.le z
  obtain ⟨x, c', hv, c2⟩ := h.rc hz
  generalize (L.getD z []).length = m at c2 hbad hle
  generalize L.length = n at c1 hz hn hz2
  have z0 : (0 : Int) ≤ z := by omega
  have z1 : (z : Int) < n := by omega
  clear h ho hv
  by_cases s0 : s < 0
  · clear hbad
    go_enter Try.func67, Try.ntmps67
    go_wp2_with (go_at_call 84; refine hz2.out.mono ?_; rintro e w' ⟨rfl, rfl⟩)
    go_ret
    exact ⟨rfl, rfl⟩
  · have s0' : 0 ≤ s := by omega
    clear s0
    by_cases s1 : (sl : Int) ≤ s
    · clear hbad
      go_enter Try.func67, Try.ntmps67
      go_wp2_with (go_at_call 84; refine hz2.out.mono ?_; rintro e w' ⟨rfl, rfl⟩)
      go_ret
      exact ⟨rfl, rfl⟩
    · have s1' : s < (sl : Int) := by omega
      clear s1
      by_cases i0 : i < -1
      · clear hbad
        go_enter Try.func67, Try.ntmps67
        go_wp2_with (go_at_call 84; refine hz2.out.mono ?_; rintro e w' ⟨rfl, rfl⟩)
        go_ret
        exact ⟨rfl, rfl⟩
      · have i0' : -1 ≤ i := by omega
        have i1 : (m : Int) < i := by omega
        clear hbad i0
        go_enter Try.func67, Try.ntmps67
        go_wp2_with (go_at_call 84; refine hz2.out.mono ?_; rintro e w' ⟨rfl, rfl⟩)
        go_ret
        exact ⟨rfl, rfl⟩
theorem dwh_yes {s : Int} {r : Value} (h : DWh L s r) (hs : ¬ zno L s) : ∃ z j : Nat, j < (L.getD z []).length ∧ (((L.getD z []).getD j 0 : Nat) : Int) = s ∧ r = .tuple #[.int .i64 (z : Int), .int .i64 (j : Int), .bool true] := h.elim id fun h => absurd h.1 hs
theorem dwh_no {s : Int} {r : Value} (h : DWh L s r) (hs : zno L s) : r = .tuple #[.int .i64 0, .int .i64 0, .bool false] := by
  rcases h with ⟨z, j, hj, e, _⟩ | h
  · exact absurd e (hs z _ (getD_mem' hj))
  · exact h.2
theorem dzput_twice (h : DZ w base A sl lv vals L) (ho : ZOk L sl) (z : Nat) (i s : Int) (hz : z < L.length) (s0 : 0 ≤ s) (s1 : s < (sl : Int)) (i0 : -1 ≤ i) (i1 : i ≤ ((L.getD z []).length : Int)) (hs : ¬ zno L s) : Calls Try.prog 67 #[.pointer (some ⟨A, 0, none⟩), .int .i64 (z : Int), .int .i64 i, .int .i64 s] w fun e w' => e = .returned (.int .i64 11) ∧ w = w' := by
  have hz2 := Lib.hid (dzone_yes h ho z hz)
  have hw := Lib.hid (dzwhere_any h ho s)
  have HS := Lib.hid hs
  obtain ⟨B, c, rfl⟩ := h.lf ho
  have c0 : w.cell? ⟨A, 0, none⟩ = some (.int .i64 sl) := h.a.cell 0
  have c1 : w.cell? ⟨A, 1, none⟩ = some (.slice (some ⟨B, 0, none⟩) L.length c) := h.a.cell 1
  have hn := ho.n2
  have hs2 := ho.s2
  have hle := ho.le z
  obtain ⟨x, c', hv, c2⟩ := h.rc hz
  generalize (L.getD z []).length = m at c2 i1 hle
  generalize L.length = n at c1 hz hn hz2
  have z0 : (0 : Int) ≤ z := by omega
  have z1 : (z : Int) < n := by omega
  clear h ho hv hs
  go_enter Try.func67, Try.ntmps67
  go_wp2_with (first | (go_at_call 84; refine hz2.out.mono ?_; rintro e w' ⟨rfl, rfl⟩) | (go_at_call 85; refine hw.out.mono ?_; rintro e w' ⟨r, rfl, hr, rfl⟩; obtain ⟨zz, jj, _, _, rfl⟩ := dwh_yes hr HS.out; clear hr))
  go_ret
  exact ⟨rfl, rfl⟩
set_option maxRecDepth 100000 in
set_option maxHeartbeats 2000000 in
theorem dzput_ok (h : DZ w base A sl lv vals L) (ho : ZOk L sl) (z p s : Nat) (i : Int) (hz : z < L.length) (s1 : s < sl) (hp : p ≤ (L.getD z []).length) (hi : (i = -1 ∧ p = (L.getD z []).length) ∨ i = (p : Int)) (hs : zno L s) :
    Calls Try.prog 67 #[.pointer (some ⟨A, 0, none⟩), .int .i64 (z : Int), .int .i64 i, .int .i64 (s : Int)] w fun e w' => e = .returned (.int .i64 0) ∧ DZN w w' base A sl lv vals L z (putL (L.getD z []) p s) := by
  have hz2 := Lib.hid (dzone_yes h ho z hz)
  have hw := Lib.hid (dzwhere_any h ho s)
  have HS := Lib.hid hs
  obtain ⟨B, c, rfl⟩ := h.lf ho
  have c0 : w.cell? ⟨A, 0, none⟩ = some (.int .i64 sl) := h.a.cell 0
  have c1 : w.cell? ⟨A, 1, none⟩ = some (.slice (some ⟨B, 0, none⟩) L.length c) := h.a.cell 1
  have hn := ho.n2
  have hs2 := ho.s2
  have hle := ho.le z
  have hrow := h.e z hz
  obtain ⟨x, c', hv, c2⟩ := h.rc hz
  rw [hv] at hrow
  obtain ⟨l, hl⟩ : ∃ l, L.getD z [] = l := ⟨_, rfl⟩
  rw [hl] at hrow c2 hle hp hi ⊢
  obtain ⟨n, hnn⟩ : ∃ n, L.length = n := ⟨_, rfl⟩
  have hzn := hz
  rw [hnn] at c1 hn h hzn ⊢
  have HX := Lib.hid (And.intro h (And.intro hz (And.intro hl hnn)))
  have hform := hrow.formz
  rw [ints_length] at hform
  obtain ⟨li, hli⟩ : ∃ li, ints l = li := ⟨_, rfl⟩
  have hll : li.length = l.length := by rw [← hli]; exact ints_length l
  obtain ⟨m, hm⟩ : ∃ m, l.length = m := ⟨_, rfl⟩
  rw [hli] at hrow hform
  rw [hm] at hrow hform c2 hle hp hi hll
  have HL := Lib.hid (And.intro hli (And.intro hll hm))
  have s0' : (0 : Int) ≤ s := by omega
  have s1' : (s : Int) < sl := by omega
  have z0 : (0 : Int) ≤ z := by omega
  have z1 : (z : Int) < n := by omega
  have p0 : (0 : Int) ≤ p := by omega
  have p1 : (p : Int) ≤ m := by omega
  have HI := Lib.hid hi
  have hi1 : -1 ≤ i := by omega
  have hi2 : i ≤ m := by omega
  have HR := Lib.hid hrow
  have hbs : base ≤ w.heap.size := by have := h.hb; have := h.a.lt; omega
  clear h ho hv hs hrow hnn hl hli hll hm hz s1 hi
  obtain ⟨lq, hlq⟩ : ∃ lq, li.take p ++ [(s : Int)] ++ li.drop p = lq := ⟨_, rfl⟩
  have HQ := Lib.hid hlq
  clear hlq
  have key : Calls Try.prog 67 #[.pointer (some ⟨A, 0, none⟩), .int .i64 (z : Int), .int .i64 i, .int .i64 (s : Int)] w fun e w' => e = .returned (.int .i64 0) ∧ ∃ w5 v5 c5 a5, w' = w5.setCell ⟨B, z, none⟩ (.slice a5 v5 c5) ∧ Below w.heap.size w w5 ∧ IRow w5 w.heap.size (.slice a5 v5 c5) lq := by
    rcases hform with ⟨hv, hl0⟩ | ⟨g, cap, hv, hcap⟩
    · injection hv with hv1 hv2 hv3
      subst hv1 hv2 hv3 hl0
      obtain rfl : p = 0 := by omega
      have hq : ([] : List Int) ++ [(s : Int)] ++ [] = lq := by rw [← HQ.out]; rfl
      rcases HI.out with ⟨rfl, _⟩ | rfl
      · clear hi1 hi2
        have hrw : True := trivial
        go_enter Try.func67, Try.ntmps67
        go_upto_region 10 with (first | (go_at_call 84; refine hz2.out.mono ?_; rintro e w' ⟨rfl, rfl⟩) | (go_at_call 85; refine hw.out.mono ?_; rintro e w' ⟨r, rfl, hr, rfl⟩; obtain rfl := dwh_no hr HS.out; clear hr))
        go_upto_region 11 with (at_builtin; refine wpList_append_ints (base := w.heap.size) rfl (.tmp 65) (.tmp 68) rfl rfl (IRow.nil w w.heap.size) rfl (SInts.nil w none) (by have := HL.out.2.1; simp <;> omega) (Nat.le_refl _) ?_; intro v5 w5 hr5 hg5 hf5; have hb5 := (Below.refl _ w).grown hg5 (Nat.le_refl _) (fun k e => by cases e); have cA : w5.cell? ⟨A, 1, none⟩ = some (.slice (some ⟨B, 0, none⟩) n c) := (HX.out.1.below hb5).a.cell 1; rw [List.nil_append] at hr5; obtain ⟨l5, hl5⟩ : ∃ l5, ([] : List Int) = l5 := ⟨_, rfl⟩; rw [hl5] at hr5; have hl5l : l5.length = 0 := (hl5 ▸ rfl); obtain ⟨x5, d5, rfl⟩ := hr5.any; have H5 := Lib.hid (And.intro hr5 (And.intro hb5 (And.intro hl5 hl5l))); clear hr5 hg5 hf5 hb5 hl5 hl5l)
        go_upto_region 12 with (at_builtin; refine wpList_append_ints (base := w.heap.size) rfl (.tmp 70) (.tmp 72) rfl rfl (H5.out.1.alloc (.cells #[.int .i64 (s : Int)] 3)) rfl (SInts.own (one_ownz w5 (s : Int))) (by rw [H5.out.2.2.2]; simp <;> omega) (fb_alloc H5.out.2.1 (.cells #[.int .i64 (s : Int)] 3)).size ?_; intro v6 w6 hr6 hg6 hf6; have hb6 := (fb_alloc H5.out.2.1 (.cells #[.int .i64 (s : Int)] 3)).grown hg6 (fb_alloc H5.out.2.1 (.cells #[.int .i64 (s : Int)] 3)).size (fun k e => (World.ownsRow.lt H5.out.1 k e).1); clear cA; have cA : w6.cell? ⟨A, 1, none⟩ = some (.slice (some ⟨B, 0, none⟩) n c) := (HX.out.1.below hb6).a.cell 1; obtain ⟨l6, hl6⟩ : ∃ l6, l5 ++ [(s : Int)] = l6 := ⟨_, rfl⟩; rw [hl6] at hr6; obtain ⟨x6, d6, rfl⟩ := hr6.any; have H6 := Lib.hid (And.intro hr6 (And.intro hb6 hl6)); clear hr6 hg6 hf6 hb6 hl6)
        have hAB : A ≠ B := fun e => row_ne_arr HX.out.1.l HX.out.1.a (by decide) (by rw [e]; rfl)
        have hdr : Below w6.heap.size w6 w6.drew := ⟨rfl, rfl, rfl, Nat.le_refl _, fun _ _ => rfl⟩
        have hb6' := H6.out.2.1.trans (hdr.mono H6.out.2.1.size)
        have HD := Lib.hid (And.intro (HX.out.1.below hb6') (And.intro hb6' (And.intro (H6.out.1.below hdr) HR.out)))
        have hl6 : l6.length = 0 + 1 := by rw [← H6.out.2.2, List.length_append, H5.out.2.2.2]; rfl
        have HZ := Lib.hid (And.intro H5.out.2.2.1 (And.intro H6.out.2.2 (And.intro hl6 hrw)))
        clear hb6' hdr H6 H5 cA hl6 hrw
        go_region_held3 (fun wy => wy.cell? ⟨A, 1, none⟩ = some (.slice (some ⟨B, 0, none⟩) n c)) (first | exact HD.out.1.a.cell 1 | exact (HD.out.1.a.set_other _ _ hAB).cell 1) (first | (refine step_append_ints rfl (.tmp 79) (.tmp 82) rfl rfl HD.out.2.2.1 rfl (SInts.nil _ _) (by have := HL.out.2.1; rw [HZ.out.2.2.1]; simp <;> omega) HD.out.2.1.size ?_; intro v7 w7 hr7 hg7 hf7; rw [← HZ.out.2.1, ← HZ.out.1, hq] at hr7; obtain ⟨x7, d7, rfl⟩ := hr7.any; have hb7 := HD.out.2.1.grown hg7 HD.out.2.1.size (fun k e => (World.ownsRow.lt HD.out.2.2.1 k e).1); have HD7 := Lib.hid (And.intro (HX.out.1.below hb7) (And.intro hb7 hr7)); have fB := HD7.out.1.fz z; obtain ⟨uB, cB⟩ := HD7.out.1.there HX.out.2.1; clear HD hr7 hg7 hf7 hb7; have HD := HD7; clear HD7))
        go_wp2
        all_goals (go_ret; exact ⟨rfl, w7, _, _, _, rfl, HD.out.2.1, HD.out.2.2⟩)
      · clear hi1 hi2
        have hrw : True := trivial
        go_enter Try.func67, Try.ntmps67
        go_upto_region 10 with (first | (go_at_call 84; refine hz2.out.mono ?_; rintro e w' ⟨rfl, rfl⟩) | (go_at_call 85; refine hw.out.mono ?_; rintro e w' ⟨r, rfl, hr, rfl⟩; obtain rfl := dwh_no hr HS.out; clear hr))
        go_upto_region 11 with (at_builtin; refine wpList_append_ints (base := w.heap.size) rfl (.tmp 65) (.tmp 68) rfl rfl (IRow.nil w w.heap.size) rfl (SInts.nil w none) (by have := HL.out.2.1; simp <;> omega) (Nat.le_refl _) ?_; intro v5 w5 hr5 hg5 hf5; have hb5 := (Below.refl _ w).grown hg5 (Nat.le_refl _) (fun k e => by cases e); have cA : w5.cell? ⟨A, 1, none⟩ = some (.slice (some ⟨B, 0, none⟩) n c) := (HX.out.1.below hb5).a.cell 1; rw [List.nil_append] at hr5; obtain ⟨l5, hl5⟩ : ∃ l5, ([] : List Int) = l5 := ⟨_, rfl⟩; rw [hl5] at hr5; have hl5l : l5.length = 0 := (hl5 ▸ rfl); obtain ⟨x5, d5, rfl⟩ := hr5.any; have H5 := Lib.hid (And.intro hr5 (And.intro hb5 (And.intro hl5 hl5l))); clear hr5 hg5 hf5 hb5 hl5 hl5l)
        go_upto_region 12 with (at_builtin; refine wpList_append_ints (base := w.heap.size) rfl (.tmp 70) (.tmp 72) rfl rfl (H5.out.1.alloc (.cells #[.int .i64 (s : Int)] 3)) rfl (SInts.own (one_ownz w5 (s : Int))) (by rw [H5.out.2.2.2]; simp <;> omega) (fb_alloc H5.out.2.1 (.cells #[.int .i64 (s : Int)] 3)).size ?_; intro v6 w6 hr6 hg6 hf6; have hb6 := (fb_alloc H5.out.2.1 (.cells #[.int .i64 (s : Int)] 3)).grown hg6 (fb_alloc H5.out.2.1 (.cells #[.int .i64 (s : Int)] 3)).size (fun k e => (World.ownsRow.lt H5.out.1 k e).1); clear cA; have cA : w6.cell? ⟨A, 1, none⟩ = some (.slice (some ⟨B, 0, none⟩) n c) := (HX.out.1.below hb6).a.cell 1; obtain ⟨l6, hl6⟩ : ∃ l6, l5 ++ [(s : Int)] = l6 := ⟨_, rfl⟩; rw [hl6] at hr6; obtain ⟨x6, d6, rfl⟩ := hr6.any; have H6 := Lib.hid (And.intro hr6 (And.intro hb6 hl6)); clear hr6 hg6 hf6 hb6 hl6)
        have hAB : A ≠ B := fun e => row_ne_arr HX.out.1.l HX.out.1.a (by decide) (by rw [e]; rfl)
        have hdr : Below w6.heap.size w6 w6.drew := ⟨rfl, rfl, rfl, Nat.le_refl _, fun _ _ => rfl⟩
        have hb6' := H6.out.2.1.trans (hdr.mono H6.out.2.1.size)
        have HD := Lib.hid (And.intro (HX.out.1.below hb6') (And.intro hb6' (And.intro (H6.out.1.below hdr) HR.out)))
        have hl6 : l6.length = 0 + 1 := by rw [← H6.out.2.2, List.length_append, H5.out.2.2.2]; rfl
        have HZ := Lib.hid (And.intro H5.out.2.2.1 (And.intro H6.out.2.2 (And.intro hl6 hrw)))
        clear hb6' hdr H6 H5 cA hl6 hrw
        go_region_held3 (fun wy => wy.cell? ⟨A, 1, none⟩ = some (.slice (some ⟨B, 0, none⟩) n c)) (first | exact HD.out.1.a.cell 1 | exact (HD.out.1.a.set_other _ _ hAB).cell 1) (first | (refine step_append_ints rfl (.tmp 79) (.tmp 82) rfl rfl HD.out.2.2.1 rfl (SInts.nil _ _) (by have := HL.out.2.1; rw [HZ.out.2.2.1]; simp <;> omega) HD.out.2.1.size ?_; intro v7 w7 hr7 hg7 hf7; rw [← HZ.out.2.1, ← HZ.out.1, hq] at hr7; obtain ⟨x7, d7, rfl⟩ := hr7.any; have hb7 := HD.out.2.1.grown hg7 HD.out.2.1.size (fun k e => (World.ownsRow.lt HD.out.2.2.1 k e).1); have HD7 := Lib.hid (And.intro (HX.out.1.below hb7) (And.intro hb7 hr7)); have fB := HD7.out.1.fz z; obtain ⟨uB, cB⟩ := HD7.out.1.there HX.out.2.1; clear HD hr7 hg7 hf7 hb7; have HD := HD7; clear HD7))
        go_wp2
        all_goals (go_ret; exact ⟨rfl, w7, _, _, _, rfl, HD.out.2.1, HD.out.2.2⟩)
    · injection hv with hv1 _ hv3
      subst hv1 hv3
      rcases HI.out with ⟨rfl, hpm⟩ | rfl
      · subst hpm
        clear hi1 hi2
        have hrw : ∀ w' : World, Below w.heap.size w w' → IRow w' base (.slice (some ⟨g, 0, none⟩) p c') li := fun w' hb => HR.out.below hb
        go_enter Try.func67, Try.ntmps67
        go_upto_region 10 with (first | (go_at_call 84; refine hz2.out.mono ?_; rintro e w' ⟨rfl, rfl⟩) | (go_at_call 85; refine hw.out.mono ?_; rintro e w' ⟨r, rfl, hr, rfl⟩; obtain rfl := dwh_no hr HS.out; clear hr))
        go_upto_region 11 with (at_builtin; refine wpList_append_ints (base := w.heap.size) rfl (.tmp 65) (.tmp 68) rfl rfl (IRow.nil w w.heap.size) rfl ((SInts.own HR.out).take hp) (by have := HL.out.2.1; simp <;> omega) (Nat.le_refl _) ?_; intro v5 w5 hr5 hg5 hf5; have hb5 := (Below.refl _ w).grown hg5 (Nat.le_refl _) (fun k e => by cases e); have cA : w5.cell? ⟨A, 1, none⟩ = some (.slice (some ⟨B, 0, none⟩) n c) := (HX.out.1.below hb5).a.cell 1; rw [List.nil_append] at hr5; obtain ⟨l5, hl5⟩ : ∃ l5, li.take p = l5 := ⟨_, rfl⟩; rw [hl5] at hr5; have hl5l : l5.length = p := (by rw [← hl5, List.length_take, HL.out.2.1]; omega); obtain ⟨x5, d5, rfl⟩ := hr5.any; have H5 := Lib.hid (And.intro hr5 (And.intro hb5 (And.intro hl5 hl5l))); clear hr5 hg5 hf5 hb5 hl5 hl5l)
        go_upto_region 12 with (at_builtin; refine wpList_append_ints (base := w.heap.size) rfl (.tmp 70) (.tmp 72) rfl rfl (H5.out.1.alloc (.cells #[.int .i64 (s : Int)] 3)) rfl (SInts.own (one_ownz w5 (s : Int))) (by rw [H5.out.2.2.2]; simp <;> omega) (fb_alloc H5.out.2.1 (.cells #[.int .i64 (s : Int)] 3)).size ?_; intro v6 w6 hr6 hg6 hf6; have hb6 := (fb_alloc H5.out.2.1 (.cells #[.int .i64 (s : Int)] 3)).grown hg6 (fb_alloc H5.out.2.1 (.cells #[.int .i64 (s : Int)] 3)).size (fun k e => (World.ownsRow.lt H5.out.1 k e).1); clear cA; have cA : w6.cell? ⟨A, 1, none⟩ = some (.slice (some ⟨B, 0, none⟩) n c) := (HX.out.1.below hb6).a.cell 1; obtain ⟨l6, hl6⟩ : ∃ l6, l5 ++ [(s : Int)] = l6 := ⟨_, rfl⟩; rw [hl6] at hr6; obtain ⟨x6, d6, rfl⟩ := hr6.any; have H6 := Lib.hid (And.intro hr6 (And.intro hb6 hl6)); clear hr6 hg6 hf6 hb6 hl6)
        have hAB : A ≠ B := fun e => row_ne_arr HX.out.1.l HX.out.1.a (by decide) (by rw [e]; rfl)
        have hdr : Below w6.heap.size w6 w6.drew := ⟨rfl, rfl, rfl, Nat.le_refl _, fun _ _ => rfl⟩
        have hb6' := H6.out.2.1.trans (hdr.mono H6.out.2.1.size)
        have HD := Lib.hid (And.intro (HX.out.1.below hb6') (And.intro hb6' (And.intro (H6.out.1.below hdr) HR.out)))
        have hl6 : l6.length = p + 1 := by rw [← H6.out.2.2, List.length_append, H5.out.2.2.2]; rfl
        have HZ := Lib.hid (And.intro H5.out.2.2.1 (And.intro H6.out.2.2 (And.intro hl6 hrw)))
        clear hb6' hdr H6 H5 cA hl6 hrw
        go_region_held3 (fun wy => wy.cell? ⟨A, 1, none⟩ = some (.slice (some ⟨B, 0, none⟩) n c)) (first | exact HD.out.1.a.cell 1 | exact (HD.out.1.a.set_other _ _ hAB).cell 1) (first | (refine step_append_ints rfl (.tmp 79) (.tmp 82) rfl rfl HD.out.2.2.1 rfl (show SInts _ _ 0 (li.drop p) from by rw [List.drop_eq_nil_of_le (Nat.le_of_eq HL.out.2.1)]; exact SInts.nil _ _) (by have := HL.out.2.1; rw [HZ.out.2.2.1]; simp <;> omega) HD.out.2.1.size ?_; intro v7 w7 hr7 hg7 hf7; rw [← HZ.out.2.1, ← HZ.out.1, HQ.out] at hr7; obtain ⟨x7, d7, rfl⟩ := hr7.any; have hb7 := HD.out.2.1.grown hg7 HD.out.2.1.size (fun k e => (World.ownsRow.lt HD.out.2.2.1 k e).1); have HD7 := Lib.hid (And.intro (HX.out.1.below hb7) (And.intro hb7 hr7)); have fB := HD7.out.1.fz z; obtain ⟨uB, cB⟩ := HD7.out.1.there HX.out.2.1; clear HD hr7 hg7 hf7 hb7; have HD := HD7; clear HD7))
        go_wp2
        all_goals (go_ret; exact ⟨rfl, w7, _, _, _, rfl, HD.out.2.1, HD.out.2.2⟩)
      · clear hi1 hi2
        have hrw : ∀ w' : World, Below w.heap.size w w' → IRow w' base (.slice (some ⟨g, 0, none⟩) m c') li := fun w' hb => HR.out.below hb
        go_enter Try.func67, Try.ntmps67
        go_upto_region 10 with (first | (go_at_call 84; refine hz2.out.mono ?_; rintro e w' ⟨rfl, rfl⟩) | (go_at_call 85; refine hw.out.mono ?_; rintro e w' ⟨r, rfl, hr, rfl⟩; obtain rfl := dwh_no hr HS.out; clear hr))
        go_upto_region 11 with (at_builtin; refine wpList_append_ints (base := w.heap.size) rfl (.tmp 65) (.tmp 68) rfl rfl (IRow.nil w w.heap.size) rfl ((SInts.own HR.out).take hp) (by have := HL.out.2.1; simp <;> omega) (Nat.le_refl _) ?_; intro v5 w5 hr5 hg5 hf5; have hb5 := (Below.refl _ w).grown hg5 (Nat.le_refl _) (fun k e => by cases e); have cA : w5.cell? ⟨A, 1, none⟩ = some (.slice (some ⟨B, 0, none⟩) n c) := (HX.out.1.below hb5).a.cell 1; rw [List.nil_append] at hr5; obtain ⟨l5, hl5⟩ : ∃ l5, li.take p = l5 := ⟨_, rfl⟩; rw [hl5] at hr5; have hl5l : l5.length = p := (by rw [← hl5, List.length_take, HL.out.2.1]; omega); obtain ⟨x5, d5, rfl⟩ := hr5.any; have H5 := Lib.hid (And.intro hr5 (And.intro hb5 (And.intro hl5 hl5l))); clear hr5 hg5 hf5 hb5 hl5 hl5l)
        go_upto_region 12 with (at_builtin; refine wpList_append_ints (base := w.heap.size) rfl (.tmp 70) (.tmp 72) rfl rfl (H5.out.1.alloc (.cells #[.int .i64 (s : Int)] 3)) rfl (SInts.own (one_ownz w5 (s : Int))) (by rw [H5.out.2.2.2]; simp <;> omega) (fb_alloc H5.out.2.1 (.cells #[.int .i64 (s : Int)] 3)).size ?_; intro v6 w6 hr6 hg6 hf6; have hb6 := (fb_alloc H5.out.2.1 (.cells #[.int .i64 (s : Int)] 3)).grown hg6 (fb_alloc H5.out.2.1 (.cells #[.int .i64 (s : Int)] 3)).size (fun k e => (World.ownsRow.lt H5.out.1 k e).1); clear cA; have cA : w6.cell? ⟨A, 1, none⟩ = some (.slice (some ⟨B, 0, none⟩) n c) := (HX.out.1.below hb6).a.cell 1; obtain ⟨l6, hl6⟩ : ∃ l6, l5 ++ [(s : Int)] = l6 := ⟨_, rfl⟩; rw [hl6] at hr6; obtain ⟨x6, d6, rfl⟩ := hr6.any; have H6 := Lib.hid (And.intro hr6 (And.intro hb6 hl6)); clear hr6 hg6 hf6 hb6 hl6)
        have hAB : A ≠ B := fun e => row_ne_arr HX.out.1.l HX.out.1.a (by decide) (by rw [e]; rfl)
        have hdr : Below w6.heap.size w6 w6.drew := ⟨rfl, rfl, rfl, Nat.le_refl _, fun _ _ => rfl⟩
        have hb6' := H6.out.2.1.trans (hdr.mono H6.out.2.1.size)
        have HD := Lib.hid (And.intro (HX.out.1.below hb6') (And.intro hb6' (And.intro (H6.out.1.below hdr) HR.out)))
        have hl6 : l6.length = p + 1 := by rw [← H6.out.2.2, List.length_append, H5.out.2.2.2]; rfl
        have HZ := Lib.hid (And.intro H5.out.2.2.1 (And.intro H6.out.2.2 (And.intro hl6 hrw)))
        clear hb6' hdr H6 H5 cA hl6 hrw
        go_region_held3 (fun wy => wy.cell? ⟨A, 1, none⟩ = some (.slice (some ⟨B, 0, none⟩) n c)) (first | exact HD.out.1.a.cell 1 | exact (HD.out.1.a.set_other _ _ hAB).cell 1) (first | (refine step_append_ints rfl (.tmp 79) (.tmp 82) rfl rfl HD.out.2.2.1 rfl (show SInts _ _ (m - p) (li.drop p) from (SInts.own (HZ.out.2.2.2 _ HD.out.2.1)).cut hcap (fun hh => by simp [hh])) (by have := HL.out.2.1; rw [HZ.out.2.2.1]; simp <;> omega) HD.out.2.1.size ?_; intro v7 w7 hr7 hg7 hf7; rw [← HZ.out.2.1, ← HZ.out.1, HQ.out] at hr7; obtain ⟨x7, d7, rfl⟩ := hr7.any; have hb7 := HD.out.2.1.grown hg7 HD.out.2.1.size (fun k e => (World.ownsRow.lt HD.out.2.2.1 k e).1); have HD7 := Lib.hid (And.intro (HX.out.1.below hb7) (And.intro hb7 hr7)); have fB := HD7.out.1.fz z; obtain ⟨uB, cB⟩ := HD7.out.1.there HX.out.2.1; clear HD hr7 hg7 hf7 hb7; have HD := HD7; clear HD7))
        go_wp2
        all_goals (go_ret; exact ⟨rfl, w7, _, _, _, rfl, HD.out.2.1, HD.out.2.2⟩)
  refine key.mono ?_
  rintro e w' ⟨rfl, w5, v5, c5, a5, rfl, hb, hv⟩
  refine ⟨rfl, _, ((HX.out.1.below hb).mono (Nat.le_refl _)).put (l' := putL l p s) HX.out.2.1 ?_, (Moved.of_below hb _).trans (Moved.of_set w5 ⟨B, z, none⟩ _ (S := fun j => j = B) rfl) fun k hk => .inl (by rw [hk]; rfl), fun k hk => (World.ownsRow.lt hv k hk).1⟩
  rw [← ints_putL, HL.out.1, HQ.out]
  exact own_mono' hv hbs
end
end Go.Proofs.Ytfkkkndigkchcaa
