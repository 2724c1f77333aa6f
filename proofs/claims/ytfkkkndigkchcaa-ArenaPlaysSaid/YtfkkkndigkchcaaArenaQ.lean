/- The document's arena: its New and Copy. No condition. -/
import Derived.Test.YtfkkkndigkchcaaArenaR
import Derived.Deep.RegionHeld3
namespace Go.Proofs.Ytfkkkndigkchcaa
open Go.RowKit
attribute [local irreducible] Calls

theorem infoBool : (Try.prog.info? 4).map (fun i => (i.zero, i.size, i.bytes)) = some (some (.bool false), 1, 1) := by kernel_rfl
section
variable {w w' : World} {base A n : Nat} {rv gv uv : Value} {M : AM}
set_option maxRecDepth 100000 in
set_option maxHeartbeats 2000000 in
theorem dcopy_any (h : DA w base A rv gv uv M) (ho : AOk M n) : Calls Try.prog 49 #[.pointer (some ⟨A, 0, none⟩)] w fun e w' => ∃ A' rv' gv' uv', e = .returned (.pointer (some ⟨A', 0, none⟩)) ∧ DA w' w.heap.size A' rv' gv' uv' M ∧ Below w.heap.size w w' := by
  obtain ⟨i0, hi, hz0, hz1, hz2⟩ := info_parts infoBool
  obtain ⟨G, cG, rfl⟩ := h.gf ho
  obtain ⟨U, cU, rfl⟩ := h.uf ho
  obtain ⟨x, c, hrv⟩ := h.r.any
  subst hrv
  obtain ⟨lr, hlr⟩ : ∃ lr, natI M.row = lr := ⟨_, rfl⟩
  obtain ⟨lg, hlg⟩ : ∃ lg, natI M.g = lg := ⟨_, rfl⟩
  have hr1 : lr.length ≤ 256 := by rw [← hlr, natI_length]; exact Nat.le_trans ho.r ho.n2
  have hg1 : lg.length = n := by rw [← hlg, natI_length]; exact ho.g
  rw [hlr] at h
  have HX := Lib.hid (And.intro hlr (And.intro hlg (And.intro ho hg1)))
  have HD := Lib.hid (h.below (w' := w.drew) ⟨rfl, rfl, rfl, Nat.le_refl _, fun _ _ => rfl⟩)
  have HB := Lib.hid (show Below w.heap.size w w.drew from ⟨rfl, rfl, rfl, Nat.le_refl _, fun _ _ => rfl⟩)
  have hn1 := ho.n1
  have hn2 := ho.n2
  clear h ho hlr hlg hg1
  go_enter Try.func49, Try.ntmps49
  go_upto_region 3 with fail
  go_region_held3 (fun wy => wy.cell? ⟨A, 0, none⟩ = some (.slice x lr.length c) ∧ wy.cell? ⟨A, 1, none⟩ = some (.slice (some ⟨G, 0, none⟩) n cG) ∧ wy.cell? ⟨A, 2, none⟩ = some (.slice (some ⟨U, 0, none⟩) n cU)) (first | exact ⟨HD.out.a.cell 0, HD.out.a.cell 1, HD.out.a.cell 2⟩ | exact ⟨(HD.out.a.alloc _).cell 0, (HD.out.a.alloc _).cell 1, (HD.out.a.alloc _).cell 2⟩)
    (first
      | (refine step_append_ints rfl (.tmp 6) (.tmp 10) rfl rfl (IRow.nil _ w.heap.size) rfl (show SInts _ x lr.length lr by have := SInts.own HD.out.r; rw [HX.out.1] at this; exact this) (by simp; omega) HB.out.size ?_; intro v1 w1 hr1' hg1' hf1'; rw [List.nil_append] at hr1'; obtain ⟨x1, c1, rfl⟩ := hr1'.any; have HB1 := Lib.hid (show Below w.heap.size w w1 from HB.out.grown hg1' HB.out.size (fun k e => by cases e)); have HD1 := Lib.hid (HD.out.below ((Below.refl _ _).grown hg1' (Nat.le_refl _) (fun k e => by cases e))); have HR1 := Lib.hid hr1'; have HW1 := Lib.hid HB1.out; clear HD HB hr1' hg1' hf1'; have HD := HD1; have HB := HB1; clear HD1 HB1)
      | (refine step_append_ints rfl (.tmp 12) (.tmp 16) rfl rfl (IRow.nil _ w1.heap.size) rfl (show SInts _ (some ⟨G, 0, none⟩) n lg by have := SInts.own HD.out.g; rw [HX.out.2.1] at this; exact this) (by simp; rw [HX.out.2.2.2]; omega) (Nat.le_refl _) ?_; intro v2 w2 hr2' hg2' hf2'; rw [List.nil_append] at hr2'; obtain ⟨x2, c2, rfl⟩ := hr2'.any; have hb12 := (Below.refl _ w1).grown hg2' (Nat.le_refl _) (fun k e => by cases e); have HB2 := Lib.hid (show Below w.heap.size w w2 from HB.out.trans (hb12.mono HB.out.size)); have HD2 := Lib.hid (HD.out.below hb12); have HR2 := Lib.hid (And.intro hr2' hb12); clear HD HB hr2' hg2' hf2' hb12; have HD := HD2; have HB := HB2; clear HD2 HB2)
      | (refine step_append_own rfl (.tmp 18) (.tmp 22) 112 rfl w2.heap.size 4 i0 (.bool false) 1 1 Try.underlying112 hi hz0 hz1 hz2 rfl (by decide) (.slice none 0 0) 0 [] (by simp [Act.eval]) (World.ownsRow_nil _ _ _ _) ⟨U, 0, none⟩ n cU (M.u.map Value.bool) (by simp [Act.eval]) (by rw [List.length_map, HX.out.2.2.1.u]; omega) (fun q u hq => World.ownsRow.cells (g := U) HD.out.u rfl q u hq) (fun u hu => by obtain ⟨x, _, rfl⟩ := List.mem_map.1 hu; rfl) (by unfold maxLen; omega) (by omega) (Nat.le_refl _) ?_; intro v3 w3 hr3' hg3' hf3'; rw [Nat.zero_add, List.nil_append] at hr3'; obtain ⟨g3, c3, rfl⟩ := own_form hr3' (by omega); have hb23 := (Below.refl _ w2).grown hg3' (Nat.le_refl _) (fun k e => by cases e); have HB3 := Lib.hid (show Below w.heap.size w w3 from HB.out.trans (hb23.mono HB.out.size)); have HD3 := Lib.hid (HD.out.below hb23); have HR3 := Lib.hid (And.intro hr3' hb23); clear HD HB hr3' hg3' hf3' hb23; have HD := HD3; have HB := HB3; clear HD3 HB3))
  go_wp2
  go_ret
  have hal : Below w3.heap.size w3 (w3.alloc (.cells #[.slice x1 lr.length c1, .slice x2 lg.length c2, .slice (some ⟨g3, 0, none⟩) n c3] 114)) := fb_alloc (Below.refl _ _) _
  have hw1 : w.heap.size ≤ w1.heap.size := by have := HR1.out; exact HW1.out.size
  have hw2 := HR2.out.2.size
  have hw3 := HR3.out.2.size
  have r1 := ((HR1.out.below HR2.out.2).below HR3.out.2).below hal
  have r2 := (HR2.out.1.below HR3.out.2).below hal
  have r3 : BRow w3 w2.heap.size (.slice (some ⟨g3, 0, none⟩) n c3) M.u := by unfold BRow; rw [HX.out.2.2.1.u]; exact HR3.out.1
  refine ⟨_, _, _, _, rfl, ⟨Arr.new w3 114 [.slice x1 lr.length c1, .slice x2 lg.length c2, .slice (some ⟨g3, 0, none⟩) n c3], ?_, ?_, own_mono' (r3.below hal) (by omega), fun k hk hk2 => ?_, by omega⟩, fb_alloc HB.out _⟩
  · rw [HX.out.1]; exact r1
  · rw [HX.out.2.1]; exact own_mono' r2 (by omega)
  · have h1 := (World.ownsRow.lt HR1.out k hk).2
    have h2 := (World.ownsRow.lt HR2.out.1 k hk2).1
    omega
/-- The arena as it is made. -/
def newM (i : Nat) : AM := ⟨List.range i, List.replicate i 0, List.replicate i false⟩
theorem natI_app (a b : List Nat) : natI (a ++ b) = natI a ++ natI b := by unfold natI; rw [List.map_append]
theorem kept_row {b : Nat} {e : TypeId} {size m : Nat} {v : Value} {xs : List Value} {row : Option Nat} (h : w.ownsRow b e size v m xs) (hg : w.grownBy w' row) (hne : ∀ k, v.ownBlock = some k → row ≠ some k) : w'.ownsRow b e size v m xs := by
  refine World.ownsRow.kept h hg ?_
  cases hv : v.ownBlock with
  | none => exact .inl rfl
  | some k => exact .inr fun e => hne k hv e.symm
theorem Arr.grown {b : Nat} {e t : TypeId} {size m : Nat} {v : Value} {xs vs : List Value} (ha : Arr w A t vs) (hr : w.ownsRow b e size v m xs) (hg : w.grownBy w' v.ownBlock) (hne : e ≠ t) : Arr w' A t vs := ha.kept hg (fun e => row_ne_arr hr ha hne e.symm)
theorem DA.growR {v : Value} {r : List Nat} (h : DA w base A rv gv uv M) (hv : IRow w' base v (natI r)) (hg : w.grownBy w' rv.ownBlock) (hf : ∀ k, v.ownBlock = some k → rv.ownBlock = some k ∨ w.heap.size ≤ k) :
    (Arr w' A 114 [rv, gv, uv]) ∧ DA (w'.setCell ⟨A, 0, none⟩ v) base A v gv uv { M with row := r } := by
  have a := Arr.grown h.a h.r hg (by decide)
  have g' : IRow w' base gv (natI M.g) := kept_row h.g hg fun k hk e => h.ne k e hk
  have u' : BRow w' base uv M.u := kept_row h.u hg fun k hk => row_ne h.u h.r (by decide) hk
  refine ⟨a, a.set 0 v, hv.other _ _ (row_ne_arr hv a (by decide)), g'.other _ _ (row_ne_arr g' a (by decide)), u'.other _ _ (row_ne_arr u' a (by decide)), fun k hk hk2 => ?_, h.hb⟩
  rcases hf k hk with h1 | h1
  · exact h.ne k h1 hk2
  · have := (World.ownsRow.lt h.g k hk2).2; omega
theorem DA.growG {v : Value} {r : List Nat} (h : DA w base A rv gv uv M) (hv : IRow w' base v (natI r)) (hg : w.grownBy w' gv.ownBlock) (hf : ∀ k, v.ownBlock = some k → gv.ownBlock = some k ∨ w.heap.size ≤ k) :
    (Arr w' A 114 [rv, gv, uv]) ∧ DA (w'.setCell ⟨A, 1, none⟩ v) base A rv v uv { M with g := r } := by
  have a := Arr.grown h.a h.g hg (by decide)
  have r' : IRow w' base rv (natI M.row) := kept_row h.r hg fun k hk => h.ne k hk
  have u' : BRow w' base uv M.u := kept_row h.u hg fun k hk => row_ne h.u h.g (by decide) hk
  refine ⟨a, a.set 1 v, r'.other _ _ (row_ne_arr r' a (by decide)), hv.other _ _ (row_ne_arr hv a (by decide)), u'.other _ _ (row_ne_arr u' a (by decide)), fun k hk hk2 => ?_, h.hb⟩
  rcases hf k hk2 with h1 | h1
  · exact h.ne k hk h1
  · have := (World.ownsRow.lt h.r k hk).2; omega
theorem DA.growU {v : Value} {r : List Bool} (h : DA w base A rv gv uv M) (hv : BRow w' base v r) (hg : w.grownBy w' uv.ownBlock) :
    (Arr w' A 114 [rv, gv, uv]) ∧ DA (w'.setCell ⟨A, 2, none⟩ v) base A rv gv v { M with u := r } := by
  have a := Arr.grown h.a h.u hg (by decide)
  have r' : IRow w' base rv (natI M.row) := kept_row h.r hg fun k hk => row_ne h.r h.u (by decide) hk
  have g' : IRow w' base gv (natI M.g) := kept_row h.g hg fun k hk => row_ne h.g h.u (by decide) hk
  exact ⟨a, a.set 2 v, r'.other _ _ (row_ne_arr r' a (by decide)), g'.other _ _ (row_ne_arr g' a (by decide)), hv.other _ _ (row_ne_arr hv a (by decide)), h.ne, h.hb⟩
theorem one_own (w : World) (x : Int) : IRow (w.alloc (.cells #[.int .i64 x] 3)) w.heap.size (.slice (some ⟨w.heap.size, 0, none⟩) 1 1) [x] := Arr.own (vs := [.int .i64 x]) (Arr.new w 3 [.int .i64 x]) (Nat.le_refl _) (by simp [maxLen])
theorem natI_range (i : Nat) : natI (List.range i) ++ [(i : Int)] = natI (List.range (i + 1)) := by rw [List.range_succ, natI_app]; rfl
theorem natI_zeros (i : Nat) : natI (List.replicate i 0) ++ [(0 : Int)] = natI (List.replicate (i + 1) 0) := by rw [List.replicate_succ', natI_app]; rfl
theorem dnew_no (w : World) (n : Int) (hn : n < 1 ∨ 256 < n) : Calls Try.prog 45 #[.int .i64 n] w fun e w' => e = .returned (.pointer none) ∧ w = w' := by
  by_cases h0 : n < 1
  · clear hn
    go_enter Try.func45, Try.ntmps45
    go_wp2
    go_ret
    exact ⟨rfl, rfl⟩
  · have h1 : 1 ≤ n := by omega
    have h2 : 256 < n := by omega
    clear hn h0
    go_enter Try.func45, Try.ntmps45
    go_wp2
    go_ret
    exact ⟨rfl, rfl⟩
set_option maxRecDepth 100000 in
set_option maxHeartbeats 4000000 in
theorem dnew_any (w : World) (n : Nat) (hn1 : 1 ≤ n) (hn2 : n ≤ 256) : Calls Try.prog 45 #[.int .i64 (n : Int)] w fun e w' => ∃ A rv gv uv, e = .returned (.pointer (some ⟨A, 0, none⟩)) ∧ DA w' w.heap.size A rv gv uv (newM n) ∧ Below w.heap.size w w' := by
  obtain ⟨i0', hi, hz0, hz1, hz2⟩ := info_parts infoBool
  obtain ⟨A, hA⟩ : ∃ A, w.heap.size = A := ⟨_, rfl⟩
  go_enter Try.func45, Try.ntmps45
  go_wp2
  have HS := Lib.hid (show ∃ rv gv uv, DA (w.alloc (.cells #[.slice none 0 0, .slice none 0 0, .slice none 0 0] 114)) A A rv gv uv (newM 0) ∧ Below w.heap.size w (w.alloc (.cells #[.slice none 0 0, .slice none 0 0, .slice none 0 0] 114)) from
    ⟨_, _, _, ⟨by rw [← hA]; exact Arr.new w _ [.slice none 0 0, .slice none 0 0, .slice none 0 0], IRow.nil _ _, IRow.nil _ _, World.ownsRow_nil _ _ _ _, fun k hk => (by cases hk), Nat.le_refl _⟩, fb_alloc (Below.refl _ _) _⟩)
  have HA := Lib.hid hA
  clear hA
  go_loopw [4] (fun x wr => ∃ i : Nat, i ≤ n ∧ x = .int .i64 i ∧ Hid (∃ rv gv uv, DA wr A A rv gv uv (newM i) ∧ Below w.heap.size w wr)) (fun x _ => n - (intOf x).toNat)
  case atStart => exact ⟨0, Nat.zero_le _, rfl, HS⟩
  case round =>
    obtain ⟨i, hil, rfl, hst⟩ := hrel
    obtain ⟨rv, gv, uv, hD, hb⟩ := hst.out
    by_cases hlt : i < n
    · obtain ⟨x0, c0, hrv⟩ := hD.r.any
      rw [natI_length, show (newM i).row.length = i from by show (List.range i).length = i; simp] at hrv
      subst hrv
      obtain ⟨x1, c1, hgv⟩ := hD.g.any
      rw [natI_length, show (newM i).g.length = i from by show (List.replicate i 0).length = i; simp] at hgv
      subst hgv
      have huv : ∃ x2 c2, uv = .slice x2 i c2 := by
        have hu := hD.u
        unfold BRow at hu
        rw [show (newM i).u.length = i from by show (List.replicate i false).length = i; simp] at hu
        rcases hu.2 with ⟨rfl, h0⟩ | ⟨g, cap, cur, rfl, _⟩
        · exact ⟨none, 0, by rw [h0]⟩
        · exact ⟨_, _, rfl⟩
      obtain ⟨x2, c2, rfl⟩ := huv
      have a0 : wr.cell? ⟨A, 0, none⟩ = some (.slice x0 i c0) := hD.a.cell 0
      have HD := Lib.hid (And.intro hD hb)
      have hAl : A < wr.heap.size := hD.a.lt
      have i0 : (0 : Int) ≤ i := by omega
      have i1 : (i : Int) < n := by omega
      have a0' : (wr.alloc (.cells #[.int .i64 (i : Int)] 3)).cell? ⟨A, 0, none⟩ = some (.slice x0 i c0) := (hD.below (fb_alloc (Below.refl _ _) _)).a.cell 0
      clear hst hD hb
      go_upto_region 8 with (at_builtin; refine wpList_append_ints (base := A) rfl (.tmp 22) (.tmp 24) rfl rfl (HD.out.1.below (fb_alloc (Below.refl _ _) (.cells #[.int .i64 (i : Int)] 3))).r rfl (SInts.own (one_own wr (i : Int))) (by rw [natI_length]; show (List.range i).length + _ ≤ _; simp; omega) (by simp; omega) ?_; intro v5 w5 hr5 hg5 hf5; rw [show natI (newM i).row ++ [(i : Int)] = natI (List.range (i + 1)) from natI_range i] at hr5; have hgr := (HD.out.1.below (fb_alloc (Below.refl _ _) (.cells #[.int .i64 (i : Int)] 3))).growR hr5 hg5 hf5; have cA : w5.cell? ⟨A, 0, none⟩ = some (.slice x0 i c0) := hgr.1.cell 0; have fA := hgr.1.frozen 0; obtain ⟨l5, hl5⟩ : ∃ l5, natI (List.range (i + 1)) = l5 := ⟨_, rfl⟩; rw [hl5] at hr5; obtain ⟨y5, z5, rfl⟩ := hr5.any; clear hl5; have HG := Lib.hid (And.intro hgr.2 ((fb_alloc HD.out.2 (.cells #[.int .i64 (i : Int)] 3)).grown hg5 (fb_alloc HD.out.2 _).size (fun k e => by rw [HA.out]; exact (World.ownsRow.lt HD.out.1.r k e).1))); clear hr5 hg5 hf5 hgr)
      have hb6 := HG.out.2.setCell (p := ⟨A, 0, none⟩) (by rw [HA.out]; exact Nat.le_refl _) (.slice y5 l5.length z5)
      have HD6 := Lib.hid (And.intro HG.out.1 hb6)
      generalize w5.setCell ⟨A, 0, none⟩ (.slice y5 l5.length z5) = w6 at HD6 ⊢
      clear HG hb6 cA fA a0 a0' hAl HD
      have a1 : w6.cell? ⟨A, 1, none⟩ = some (.slice x1 i c1) := HD6.out.1.a.cell 1
      have a1' : (w6.alloc (.cells #[.int .i64 0] 3)).cell? ⟨A, 1, none⟩ = some (.slice x1 i c1) := (HD6.out.1.below (fb_alloc (Below.refl _ _) _)).a.cell 1
      have hAl : A < w6.heap.size := HD6.out.1.a.lt
      go_upto_region 9 with (at_builtin; refine wpList_append_ints (base := A) rfl (.tmp 32) (.tmp 33) rfl rfl (HD6.out.1.below (fb_alloc (Below.refl _ _) (.cells #[.int .i64 0] 3))).g rfl (SInts.own (one_own w6 0)) (by rw [natI_length]; show (List.replicate i 0).length + _ ≤ _; simp; omega) (by simp; omega) ?_; intro v7 w7 hr7 hg7 hf7; rw [show natI ({ row := List.range (i + 1), g := (newM i).g, u := (newM i).u } : AM).g ++ [(0 : Int)] = natI (List.replicate (i + 1) 0) from natI_zeros i] at hr7; have hgr := (HD6.out.1.below (fb_alloc (Below.refl _ _) (.cells #[.int .i64 0] 3))).growG hr7 hg7 hf7; have cA : w7.cell? ⟨A, 1, none⟩ = some (.slice x1 i c1) := hgr.1.cell 1; have fA := hgr.1.frozen 1; obtain ⟨l7, hl7⟩ : ∃ l7, natI (List.replicate (i + 1) 0) = l7 := ⟨_, rfl⟩; rw [hl7] at hr7; obtain ⟨y7, z7, rfl⟩ := hr7.any; clear hl7; have HG := Lib.hid (And.intro hgr.2 ((fb_alloc HD6.out.2 (.cells #[.int .i64 0] 3)).grown hg7 (fb_alloc HD6.out.2 _).size (fun k e => by rw [HA.out]; exact (World.ownsRow.lt HD6.out.1.g k e).1))); clear hr7 hg7 hf7 hgr)
      have hb8 := HG.out.2.setCell (p := ⟨A, 1, none⟩) (by rw [HA.out]; exact Nat.le_refl _) (.slice y7 l7.length z7)
      have HD8 := Lib.hid (And.intro HG.out.1 hb8)
      generalize w7.setCell ⟨A, 1, none⟩ (.slice y7 l7.length z7) = w8 at HD8 ⊢
      clear HG hb8 cA fA a1 a1' hAl HD6
      have a2 : w8.cell? ⟨A, 2, none⟩ = some (.slice x2 i c2) := HD8.out.1.a.cell 2
      have a2' : (w8.alloc (.cells #[.bool false] 4)).cell? ⟨A, 2, none⟩ = some (.slice x2 i c2) := (HD8.out.1.below (fb_alloc (Below.refl _ _) _)).a.cell 2
      have hAl : A < w8.heap.size := HD8.out.1.a.lt
      have hur : (w8.alloc (.cells #[.bool false] 4)).ownsRow A 4 1 (.slice x2 i c2) i ((List.replicate i false).map Value.bool) := by
        have := (HD8.out.1.below (fb_alloc (Below.refl _ _) (.cells #[.bool false] 4))).u
        unfold BRow at this
        rw [show (newM i).u.length = i from by show (List.replicate i false).length = i; simp] at this
        exact this
      go_wp2_with (at_builtin; refine wpList_append_fresh _ rfl (.tmp 41) (.tmp 42) 112 rfl A 4 i0' (.bool false) 1 1 Try.underlying112 hi hz0 hz1 hz2 rfl (by decide) (.slice x2 i c2) i ((List.replicate i false).map Value.bool) rfl hur ⟨w8.heap.size, 0, none⟩ 1 1 [.bool false] rfl rfl (cell_one_new _ _ _) (by simp [Value.oneCell']) (by unfold maxLen; omega) (by omega) (by simp; omega) ?_; intro v9 w9 hr9 hg9 hf9; have hr9' : BRow w9 A v9 (List.replicate (i + 1) false) := (by unfold BRow; rw [List.length_replicate, List.replicate_succ', List.map_append]; exact hr9); have hgr := (HD8.out.1.below (fb_alloc (Below.refl _ _) (.cells #[.bool false] 4))).growU hr9' hg9; have cA : w9.cell? ⟨A, 2, none⟩ = some (.slice x2 i c2) := hgr.1.cell 2; have fA := hgr.1.frozen 2; obtain ⟨y9, z9, rfl⟩ := own_form hr9 (by omega); have HG := Lib.hid (And.intro hgr.2 ((fb_alloc HD8.out.2 (.cells #[.bool false] 4)).grown hg9 (fb_alloc HD8.out.2 _).size (fun k e => by rw [HA.out]; exact (World.ownsRow.lt HD8.out.1.u k e).1))); clear hr9 hg9 hf9 hgr hr9')
      have hb10 := HG.out.2.setCell (p := ⟨A, 2, none⟩) (by rw [HA.out]; exact Nat.le_refl _) (.slice (some ⟨y9, 0, none⟩) (i + 1) z9)
      go_roundw
      case rel => exact ⟨i + 1, by omega, by go_num, Lib.hid ⟨_, _, _, HG.out.1, hb10⟩⟩
      case measure => simp [intOf]; omega
    · obtain rfl : n = i := by omega
      have HD := Lib.hid (And.intro hD hb)
      clear hst hD hb hlt
      go_wp2
      go_ret
      exact ⟨A, _, _, _, rfl, by rw [HA.out]; exact HD.out.1, HD.out.2⟩
end
end Go.Proofs.Ytfkkkndigkchcaa
