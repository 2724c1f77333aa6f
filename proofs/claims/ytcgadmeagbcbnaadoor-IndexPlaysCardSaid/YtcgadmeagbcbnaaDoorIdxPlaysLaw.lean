/- How slices of slices of the law's pairs that came in are opened. No condition. IndexPlays: whatever is filled, emptied and touched, and wherever one goes back: who has what is what the document says. No condition. -/
import Derived.Test.YtcgadmeagbcbnaaDoorOpenT
import Derived.Test.YtcgadmeagbcbnaaDoorIdxPool
import Derived.Test.YtcgadmeagbcbnaaDoorIdxPlays
import Derived.Test.YtcgadmeagbcbnaaDoorIdxTab
import Derived.Test.YtcgadmeagbcbnaaDoorTie
import Derived.Test.YtcgadmeagbcbnaaDoorCards
import Derived.SevenTiedAt
namespace Go.Proofs.YtcgadmeagbcbnaaDoor
section
open Go.ChangeShapes Go.WideShapes Go.ChangeAt Go.RowKit Go.Deep

theorem getD_rangeMap {α : Type} (f : Nat → α) (n i : Nat) (d : α) (h : i < n) : ((List.range n).map f).getD i d = f i := by
  rw [List.getD_eq_getElem?_getD, List.getElem?_map, List.getElem?_range h]; rfl
section
variable {H : Type} {enc : TypeId × Value → H} {W : World} {base : Nat} {held : Bool}
/-- One row of pairs. -/
def HasAt (W : World) (ai : Option Addr) (l : List (Int × Int)) : Prop :=
  l.length = 0 ∨ ∃ b' o', ai = some ⟨b', o', none⟩ ∧ b' < W.heap.size ∧ ∀ j, j < l.length → W.cell? ⟨b', o' + j * 2, none⟩ = some (.int .i64 (l.getD j (0, 0)).1) ∧ W.cell? ⟨b', o' + j * 2 + 1, none⟩ = some (.int .i64 (l.getD j (0, 0)).2)
set_option maxRecDepth 100000 in
theorem has_cells {fuel : Nat} {cs : List Value} {x : DataW H × List MemPlace} (h : DataW.trod enc Tryd.prog W base (fun _ => true) held fuel 76 cs = some x) :
    ∃ (ai : Option Addr) (ci : Nat) (l : List (Int × Int)), cs = [.slice ai l.length ci] ∧ HasAt W ai l ∧ ∀ q ∈ l, wf2 q.1 q.2 := by
  rcases open_slice_fields Tryd.underlying76 Tryd.underlying78 (by kernel_rfl) (by kernel_rfl) h with ⟨hcs, _⟩ | ⟨a, len, cap, m, hcs, _, hl, hm, hmm, hx⟩
  · exact ⟨none, 0, [], hcs, .inl rfl, fun q hq => by cases hq⟩
  · have each : ∀ i, i < len → ∃ q : Int × Int, W.cell? (a.add (i * 2 + 0)) = some (.int .i64 q.1) ∧ W.cell? (a.add (i * 2 + 1)) = some (.int .i64 q.2) ∧ wf2 q.1 q.2 := fun i hi => by
      obtain ⟨n, hn⟩ := hx i (by rw [hmm]; simp; omega)
      obtain ⟨u0, y0, hc0, hy0⟩ := hn 0 _ rfl
      obtain ⟨x0, e0, _, hw0⟩ := DataW.trod_int Tryd.underlying3 hy0
      obtain ⟨u1, y1, hc1, hy1⟩ := hn 1 _ rfl
      obtain ⟨x1, e1, _, hw1⟩ := DataW.trod_int Tryd.underlying3 hy1
      rw [show u0 = .int .i64 x0 by simpa using e0] at hc0
      rw [show u1 = .int .i64 x1 by simpa using e1] at hc1
      exact ⟨(x0, x1), hc0, hc1, hw0, hw1⟩
    obtain ⟨F, hF⟩ : ∃ F : Nat → Int × Int, ∀ i, i < len → W.cell? (a.add (i * 2 + 0)) = some (.int .i64 (F i).1) ∧ W.cell? (a.add (i * 2 + 1)) = some (.int .i64 (F i).2) ∧ wf2 (F i).1 (F i).2 :=
      ⟨fun i => if hh : i < len then Classical.choose (each i hh) else (0, 0), fun i hi => by simpa [hi] using Classical.choose_spec (each i hi)⟩
    refine ⟨some a, cap, (List.range len).map F, by simpa using hcs, ?_, fun q hq => ?_⟩
    · by_cases hl0 : len = 0
      · exact .inl (by simp [hl0])
      · obtain ⟨bk, off, spot⟩ := a
        have c0 := (hF 0 (by omega)).1
        have hspot : spot = none := by simpa [Addr.add] using World.cell?_spot c0
        subst hspot
        have hbk := World.block_lt_of_cell? _ _ c0
        rw [add_plain] at hbk
        refine .inr ⟨bk, off, rfl, hbk, fun j hj => ?_⟩
        have hj' : j < len := by simpa using hj
        rw [getD_rangeMap F len j (0, 0) hj']
        obtain ⟨g0, g1, _⟩ := hF j hj'
        rw [add_plain] at g0 g1
        exact ⟨g0, by rw [Nat.add_assoc]; exact g1⟩
    · obtain ⟨j, hj, rfl⟩ := List.mem_map.1 hq
      exact (hF j (List.mem_range.1 hj)).2.2
set_option maxRecDepth 100000 in
theorem open_hss {r : Reach} {b0 : Nat} {v : Value} {d : DataW H} {p : List MemPlace}
    (hv : Value.okWide Tryd.prog W r b0 23 v) (h : DataW.Trod enc Tryd.prog W base (fun _ => true) held 23 v d p) :
    ∃ L : List (List (Int × Int)), L.length ≤ maxLen ∧ Hss W W.heap.size v L ∧ ∀ l ∈ L, ∀ q ∈ l, wf2 q.1 q.2 := by
  obtain ⟨a0, len, cap, rfl⟩ := okWide_slice Tryd.underlying23 hv
  obtain ⟨fuel, hf⟩ := h
  rcases open_slice Tryd.underlying23 hf with ⟨hcs, _⟩ | ⟨a, len', cap', m, n, D, Pl, hcs, _, hl, hm, hmm, _, hx⟩
  · simp [Value.cells] at hcs
    obtain ⟨rfl, rfl, rfl⟩ := hcs
    exact ⟨[], Nat.zero_le _, ⟨none, 0, rfl, .inl rfl⟩, fun l hl => by cases hl⟩
  · simp [Value.cells] at hcs
    obtain ⟨rfl, rfl, rfl⟩ := hcs
    rw [show Tryd.prog.cellsOf 76 = 1 by kernel_rfl] at hx
    have each : ∀ i, i < len → ∃ (ai : Option Addr) (ci : Nat) (l : List (Int × Int)), W.cell? (a.add i) = some (.slice ai l.length ci) ∧ HasAt W ai l ∧ ∀ q ∈ l, wf2 q.1 q.2 := fun i hi => by
      obtain ⟨cs', g1, g2⟩ := hx i (by rw [hmm]; simp; omega)
      obtain ⟨ai, ci, l, rfl, h1, h2⟩ := has_cells g2
      obtain ⟨_, _, hcell⟩ := World.cells?_some g1
      have h3 := hcell 0 (by omega)
      rw [Nat.mul_one] at h3
      refine ⟨ai, ci, l, ?_, h1, h2⟩
      have h4 : (a.add i).add 0 = a.add i := by rw [Go.Deep.add_add, Nat.add_zero]
      rw [h4] at h3
      exact h3
    obtain ⟨G, hG⟩ : ∃ G : Nat → List (Int × Int), ∀ i, i < len → ∃ (ai : Option Addr) (ci : Nat), W.cell? (a.add i) = some (.slice ai (G i).length ci) ∧ HasAt W ai (G i) ∧ ∀ q ∈ G i, wf2 q.1 q.2 := by
      have each' : ∀ i, i < len → ∃ (l : List (Int × Int)) (ai : Option Addr) (ci : Nat), W.cell? (a.add i) = some (.slice ai l.length ci) ∧ HasAt W ai l ∧ ∀ q ∈ l, wf2 q.1 q.2 := fun i hi => by
        obtain ⟨ai, ci, l, h⟩ := each i hi
        exact ⟨l, ai, ci, h⟩
      exact ⟨fun i => if hh : i < len then Classical.choose (each' i hh) else [], fun i hi => by simpa [hi] using Classical.choose_spec (each' i hi)⟩
    refine ⟨(List.range len).map G, by simp; omega, ⟨some a, cap, by simp, ?_⟩, fun l hl => ?_⟩
    · by_cases hl0 : len = 0
      · exact .inl (by simp [hl0])
      · obtain ⟨bk, off, spot⟩ := a
        obtain ⟨_, _, c0, _⟩ := hG 0 (by omega)
        have hspot : spot = none := by simpa [Addr.add] using World.cell?_spot c0
        subst hspot
        have hbk := World.block_lt_of_cell? _ _ c0
        rw [add_plain] at hbk
        refine .inr ⟨bk, off, rfl, hbk, fun i hi => ?_⟩
        have hi' : i < len := by simpa using hi
        rw [getD_rangeMap G len i [] hi']
        obtain ⟨ai, ci, h1, h2, _⟩ := hG i hi'
        rw [add_plain] at h1
        exact ⟨ai, ci, h1, h2⟩
    · obtain ⟨j, hj, rfl⟩ := List.mem_map.1 hl
      obtain ⟨_, _, _, _, h⟩ := hG j (List.mem_range.1 hj)
      exact h
end
end
section
open Go.ChangeShapes Go.WideShapes Go.ChangeAt Go.RowKit

theorem indexPlays_own : ownKnob Tryd.prog.godebug = none := by kernel_rfl
theorem indexPlays_laidOut : laidOutB Tryd.prog = true := by kernel_rfl
theorem indexPlays_door (os : Os) (args : Array Value) : laidMetH Tryd.prog Rows.indexPlaysRow.laid ((World.doorLaid Tryd.prog 400 os).forCall (fun _ _ => 0) ⟨#[], args, []⟩).memory :=
  laidMetH_of_parts3 (fuel := 8) (laidMet_of_run' 8 (by kernel_rfl) (by kernel_rfl)) (by kernel_rfl) (by kernel_rfl)

set_option maxHeartbeats 1000000 in
set_option maxRecDepth 100000 in
theorem indexPlays_lifted (os : Os) (started : os.Started) (H : Type) (enc : TypeId × Value → H) :
    ReturnsInHanded {} Tryd.checked os 3 .any (fun w args => (Rows.indexPlaysSpec.pre enc Tryd.prog Tryd.f3 [] false w args ∧ laidMetH Tryd.prog Rows.indexPlaysRow.laid w) ∧ sizedMet enc Tryd.prog Tryd.f3 (OpenSpec.ofChange Rows.indexPlaysSpec) false w args)
      (Rows.indexPlaysSpec.post enc Tryd.prog Tryd.f3 false true false false) := by
  refine returnsInHanded_of_change_and (C := Tryd.checked) (X := fun w _ => laidMetH Tryd.prog Rows.indexPlaysRow.laid w) (fun _ _ _ hh h => h.of_heap hh) indexPlays_own started (by kernel_rfl) Tryd.func3
    (ChangeSpec.witness_shaped (enc := enc) (C := Tryd.checked) (os := os) (X := fun w _ => laidMetH Tryd.prog Rows.indexPlaysRow.laid w) false (World.doorLaid Tryd.prog 400 os) #[.slice none 0 0, .slice none 0 0] 8 rfl (World.shaped_of_RefB (by kernel_rfl) (by kernel_rfl)) (by kernel_rfl) (by kernel_rfl) (by kernel_rfl) (indexPlays_door os _)) ?_
  intro W base args ds gs before hval0 hW _ _ hL _
  have hval : ∀ (j : Nat) t v, Tryd.f3.params[j]? = some t → args[j]? = some v → Value.okWide Tryd.prog W .any base t v := hval0
  have hW' := hW
  obtain ⟨p, q, hA0, hV, rfl, hfz, hnd⟩ := hW
  have hA : DataW.TrodAll enc Tryd.prog W 0 (fun _ => true) true Tryd.f3.params.toList args.toList ds p := hA0
  obtain ⟨hT, h0⟩ := tab_at hL
  rw [Tryd.params3] at hA hval
  obtain ⟨v0, vs0, d0, ds0, p0, q0, hargs, rfl, rfl, h1, r0⟩ := trodAll_cons hA
  obtain ⟨v1, vs1, d1, ds1, p1, q1, rfl, rfl, rfl, h2, r1⟩ := trodAll_cons r0
  obtain ⟨rfl, rfl, rfl⟩ := trodAll_nil r1
  obtain rfl : args = #[v0, v1] := by cases args; simp_all
  obtain ⟨rfl, rfl⟩ := trodVars_none hV
  have k0 := h1
  have lt0 : ∀ x ∈ p0, x.block < W.heap.size := by obtain ⟨m, hm⟩ := k0; exact DataW.trod_lt m _ _ _ hm
  obtain ⟨aa0, len0, cap0, F0, rfl, hlc0, hmx0, hN0⟩ := open_structs Tryd.underlying22 Tryd.underlying37 (by kernel_rfl) (by kernel_rfl) (by intro j f h; match j, h with | 0, h => (cases h; exact Tryd.underlying3) | 1, h => (cases h; exact Tryd.underlying3) | 2, h => (cases h; exact Tryd.underlying3)) (by decide) (hval 0 22 v0 rfl rfl) h1
  have k1 := h2
  have lt1 : ∀ x ∈ p1, x.block < W.heap.size := by obtain ⟨m, hm⟩ := k1; exact DataW.trod_lt m _ _ _ hm
  obtain ⟨L1, hmx1, hN1, hwf1⟩ := open_hss (hval 1 23 v1 rfl rfl) h2
  clear hA0 hval0
  simp only [List.append_nil] at hW'
  refine (indexPlays_walk aa0 len0 cap0 F0 _ L1 W hN0 (by have := hmx0; unfold maxLen at this; omega) hN1 (by have := hmx1; unfold maxLen at this; omega) hwf1 hT h0).mono fun e W' ⟨he, bel⟩ => ?_
  subst he
  exact ⟨_, rfl, _, _, _, [], _, [], hW', trodAll_mk1 (shut_bool Tryd.underlying4 _), (trodAll_cons_mk (Below.trod indexPlays_laidOut (by kernel_rfl) (of_decide_eq_true (by kernel_rfl)) k0 bel lt0) (trodAll_cons_mk (Below.trod indexPlays_laidOut (by kernel_rfl) (of_decide_eq_true (by kernel_rfl)) k1 bel lt1) trodAll_mk0)), rfl, bel.frame _, fun h => by cases h⟩

theorem indexPlays_over : Rows.indexPlaysRow.holds Tryd.pinned (OpenSpec.ofChange Rows.indexPlaysSpec) :=
  OpenClaim.holds_of_wide 3 Tryd.f3 rfl rfl rfl rfl rfl rfl rfl ⟨rfl, rfl, rfl, rfl, rfl⟩ rfl rfl rfl rfl rfl (by kernel_rfl) Tryd.func3 (by kernel_rfl)
    (of_decide_eq_true (by kernel_rfl)) (by unfold Func.isWrapper; first | (rw [if_pos (by decide +kernel)]; kernel_rfl) | (rw [if_neg (by decide +kernel)]; exact ⟨rfl, rfl⟩))
    (fun os started H enc _ => indexPlays_lifted os started H enc)

/-- The statement: the card. -/
theorem indexPlays_holds : Rows.IndexPlaysCardSaid :=
  Claim7.holds_tied_plain_at .later [] [.data] true (true, "c08c0475929537c4a01b2b11778c43a327459d9606bd3bdc0458533daab6a0cd") false
    indexPlays_over (fun _ h => by cases h) (by kernel_rfl) (fun _ h => by cases h) indexPlays_row_tie rfl ⟨rfl, rfl⟩ (by kernel_rfl) rfl
    (fun f fn hf hfn => by
      obtain rfl : f = 3 := Option.some.inj ((show Tryd.prog.funcNamed "trefoil/trefoillaw26.IndexPlays" = some 3 by kernel_rfl).symm.trans hf) |>.symm
      obtain rfl : fn = Tryd.f3 := (Option.some.inj (Tryd.func3.symm.trans hfn)).symm
      exact ⟨by kernel_rfl, fun j t ht => by
        rw [Tryd.params3] at ht
        have hm : t ∈ [22, 23] := by simpa using Array.mem_of_getElem? ht
        have hall : ([22, 23].all fun u => !Tryd.prog.wantsStandIn u) = true := by kernel_rfl
        exact (show Tryd.prog.wantsStandIn t = false by simpa using List.all_eq_true.1 hall t hm)⟩)
    (by kernel_rfl)
#print axioms indexPlays_holds
end
end Go.Proofs.YtcgadmeagbcbnaaDoor
