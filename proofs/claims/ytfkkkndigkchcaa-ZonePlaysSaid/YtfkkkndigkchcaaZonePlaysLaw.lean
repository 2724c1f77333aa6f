/- How a slice of structs of four numbers and a slice of numbers that came in is opened. No condition. ZonePlays: whatever is put, taken and turned, and gone back to, lists are as the document says. No condition. -/
import Derived.Test.YtfkkkndigkchcaaZonePlays
import Derived.Test.YtfkkkndigkchcaaOpenT
import Derived.Test.YtfkkkndigkchcaaOpenN
namespace Go.Proofs.Ytfkkkndigkchcaa
section
open Go.ChangeShapes Go.WideShapes Go.ChangeAt Go.RowKit Go.Deep

section
variable {H : Type} {enc : TypeId × Value → H} {W : World} {base : Nat} {held : Bool}
theorem ints_of_trod {P : Program} {t e : TypeId} {n : Nat} {v : Value} {y : DataW H × List MemPlace} (ht : P.underlying t = some (.slice e)) (he : P.underlying e = some (.int .i64)) (hc : P.cellsOf e = 1)
    (hf : DataW.trod enc P W base (fun _ => true) held n t [v] = some y) : ∃ l : List Int, Ints W W.heap.size v l := by
  rcases open_ints ht he hc hf with ⟨hcs, _⟩ | ⟨a, len, cap, zs, hcs, _, hl, hm, hz, _, hcell, hwz⟩
  · obtain rfl : v = .slice none 0 0 := by simpa using hcs
    exact ⟨[], .inl ⟨rfl, none, 0, rfl, fun _ => rfl⟩⟩
  · obtain rfl : v = .slice (some a) len cap := by simpa using hcs
    simp only [if_true] at hz
    by_cases hl0 : len = 0
    · subst hl0
      exact ⟨[], .inl ⟨rfl, some a, cap, rfl, fun h => by cases h⟩⟩
    · obtain ⟨bk, off, spot⟩ := a
      have h0 := hcell 0 (by omega)
      have hspot : spot = none := by simpa [Addr.add] using World.cell?_spot h0
      subst hspot
      have hlen : (zs.take len).length = len := by rw [List.length_take]; omega
      refine ⟨zs.take len, .inr ⟨bk, off, cap, by rw [hlen], by omega, World.block_lt_of_cell? _ _ h0, fun j hj => ?_⟩⟩
      rw [hlen] at hj
      have h5 := hcell j (by omega)
      rw [add_plain] at h5
      rw [h5]
      simp [List.getD_eq_getElem?_getD, hj]
set_option maxRecDepth 100000 in
theorem open_acts {r : Reach} {b0 : Nat} {v : Value} {d : DataW H} {p : List MemPlace}
    (hv : Value.okWide Try.prog W r b0 82 v) (h : DataW.Trod enc Try.prog W base (fun _ => true) held 82 v d p) :
    ∃ (a : Option Addr) (len cap : Nat) (F : Nat → Nat → Int) (V : Nat → Value) (Q : Nat → List Int), v = .slice a len cap ∧ len ≤ cap ∧ cap ≤ maxLen ∧ Acts W a len F V Q := by
  obtain ⟨a0, len, cap, rfl⟩ := okWide_slice Try.underlying82 hv
  obtain ⟨fuel, hf⟩ := h
  rcases open_slice_fields Try.underlying82 Try.underlying87 (by kernel_rfl) (by kernel_rfl) hf with ⟨hcs, _⟩ | ⟨a, len', cap', m, hcs, _, hl, hm, hmm, hx⟩
  · simp [Value.cells] at hcs
    obtain ⟨rfl, rfl, rfl⟩ := hcs
    exact ⟨none, 0, 0, fun _ _ => 0, fun _ => undef, fun _ => [], rfl, Nat.le_refl _, Nat.zero_le _, .inl rfl⟩
  · simp [Value.cells] at hcs
    obtain ⟨rfl, rfl, rfl⟩ := hcs
    have each : ∀ i, i < len → (∀ j, j < 4 → ∃ x : Int, W.cell? (a.add (i * 5 + j)) = some (.int .i64 x)) ∧ ∃ u l, W.cell? (a.add (i * 5 + 4)) = some u ∧ Ints W W.heap.size u l := fun i hi => by
      obtain ⟨n, hn⟩ := hx i (by rw [hmm]; simp; omega)
      refine ⟨fun j hj => ?_, ?_⟩
      · match j, hj with
        | 0, _ =>
          obtain ⟨u, y, hc, hy⟩ := hn 0 _ rfl
          obtain ⟨x, e2, _, hw⟩ := DataW.trod_int Try.underlying3 hy
          exact ⟨x, by rw [show u = .int .i64 x by simpa using e2] at hc; exact hc⟩
        | 1, _ =>
          obtain ⟨u, y, hc, hy⟩ := hn 1 _ rfl
          obtain ⟨x, e2, _, hw⟩ := DataW.trod_int Try.underlying3 hy
          exact ⟨x, by rw [show u = .int .i64 x by simpa using e2] at hc; exact hc⟩
        | 2, _ =>
          obtain ⟨u, y, hc, hy⟩ := hn 2 _ rfl
          obtain ⟨x, e2, _, hw⟩ := DataW.trod_int Try.underlying3 hy
          exact ⟨x, by rw [show u = .int .i64 x by simpa using e2] at hc; exact hc⟩
        | 3, _ =>
          obtain ⟨u, y, hc, hy⟩ := hn 3 _ rfl
          obtain ⟨x, e2, _, hw⟩ := DataW.trod_int Try.underlying3 hy
          exact ⟨x, by rw [show u = .int .i64 x by simpa using e2] at hc; exact hc⟩
      · obtain ⟨u, y, hc, hy⟩ := hn 4 _ rfl
        obtain ⟨l, hl⟩ := ints_of_trod Try.underlying34 Try.underlying3 (by kernel_rfl) hy
        exact ⟨u, l, hc, hl⟩
    obtain ⟨F, V, Q, hF⟩ : ∃ (F : Nat → Nat → Int) (V : Nat → Value) (Q : Nat → List Int), ∀ i, i < len → (∀ j, j < 4 → W.cell? (a.add (i * 5 + j)) = some (.int .i64 (F i j))) ∧ W.cell? (a.add (i * 5 + 4)) = some (V i) ∧ Ints W W.heap.size (V i) (Q i) := by
      refine ⟨fun i j => if hh : i < len ∧ j < 4 then Classical.choose ((each i hh.1).1 j hh.2) else 0, fun i => if hh : i < len then Classical.choose (each i hh).2 else undef,
        fun i => if hh : i < len then Classical.choose (Classical.choose_spec (each i hh).2) else [], fun i hi => ⟨fun j hj => ?_, ?_⟩⟩
      · simpa [hi, hj] using Classical.choose_spec ((each i hi).1 j hj)
      · simpa [hi] using Classical.choose_spec (Classical.choose_spec (each i hi).2)
    refine ⟨some a, len, cap, F, V, Q, rfl, hl, hm, ?_⟩
    by_cases hl0 : len = 0
    · exact .inl hl0
    · obtain ⟨bk, off, spot⟩ := a
      have c0 := (hF 0 (by omega)).1 0 (by omega)
      have hspot : spot = none := by simpa [Addr.add] using World.cell?_spot c0
      subst hspot
      have hbk := World.block_lt_of_cell? _ _ c0
      rw [add_plain] at hbk
      refine .inr ⟨bk, off, rfl, hbk, fun i hi => ⟨fun j hj => ?_, ?_, (hF i hi).2.2⟩⟩
      · have h5 := (hF i hi).1 j hj
        rw [add_plain] at h5
        rw [Nat.add_assoc]
        exact h5
      · have h5 := (hF i hi).2.1
        rw [add_plain] at h5
        rw [Nat.add_assoc]
        exact h5
end
end
section
open Go.ChangeShapes Go.WideShapes Go.ChangeAt Go.RowKit

theorem zonePlays_own : ownKnob Try.prog.godebug = none := by kernel_rfl
theorem zonePlays_laidOut : laidOutB Try.prog = true := by kernel_rfl

set_option maxHeartbeats 1000000 in
set_option maxRecDepth 100000 in
theorem zonePlays_lifted (os : Os) (started : os.Started) (H : Type) (enc : TypeId × Value → H) :
    ReturnsInHanded {} Try.checked os 17 .any (Rows.zonePlaysSpec.pre6 enc Try.prog Try.f17 Rows.zonePlaysRow.domain false) (Rows.zonePlaysSpec.post enc Try.prog Try.f17 false true false false) := by
  refine returnsInHanded_of_change (C := Try.checked) zonePlays_own started (by kernel_rfl) Try.func17
    (ChangeSpec.witness6 (enc := enc) (C := Try.checked) false ⟨#[], #[.int .i64 0, .int .i64 0, .slice none 0 0], []⟩ 8 (by kernel_rfl) (by kernel_rfl) (by kernel_rfl) (by kernel_rfl)) ?_
  intro W base args ds gs before hval0 hW hcnd _
  have hval : ∀ (j : Nat) t v, Try.f17.params[j]? = some t → args[j]? = some v → Value.okWide Try.prog W .any base t v := hval0
  have hW' := hW
  obtain ⟨p, q, hA0, hV, rfl, hfz, hnd⟩ := hW
  have hA : DataW.TrodAll enc Try.prog W 0 (fun _ => true) true Try.f17.params.toList args.toList ds p := hA0
  rw [Try.params17] at hA hval
  obtain ⟨v0, vs0, d0, ds0, p0, q0, hargs, rfl, rfl, h0, r0⟩ := trodAll_cons hA
  obtain ⟨v1, vs1, d1, ds1, p1, q1, rfl, rfl, rfl, h1, r1⟩ := trodAll_cons r0
  obtain ⟨v2, vs2, d2, ds2, p2, q2, rfl, rfl, rfl, h2, r2⟩ := trodAll_cons r1
  obtain ⟨rfl, rfl, rfl⟩ := trodAll_nil r2
  obtain rfl : args = #[v0, v1, v2] := by cases args; simp_all
  obtain ⟨rfl, rfl⟩ := trodVars_none hV
  have k0 := h0
  have lt0 : ∀ x ∈ p0, x.block < W.heap.size := by obtain ⟨m, hm⟩ := k0; exact DataW.trod_lt m _ _ _ hm
  obtain ⟨z0, rfl, ez1, ez2, wfz⟩ := open_int Try.underlying3 (hval 0 3 v0 rfl rfl) h0
  have k1 := h1
  have lt1 : ∀ x ∈ p1, x.block < W.heap.size := by obtain ⟨m, hm⟩ := k1; exact DataW.trod_lt m _ _ _ hm
  obtain ⟨z1, rfl, ey1, ey2, wfy⟩ := open_int Try.underlying3 (hval 1 3 v1 rfl rfl) h1
  have k2 := h2
  have lt2 : ∀ x ∈ p2, x.block < W.heap.size := by obtain ⟨m, hm⟩ := k2; exact DataW.trod_lt m _ _ _ hm
  obtain ⟨aa, n, c, F, V, Q, rfl, hlc, hmx, hF⟩ := open_acts (hval 2 82 v2 rfl rfl) h2
  clear hA0 hval0
  refine (zonePlays_walk z0 z1 aa n c F V Q W hF (by have := hmx; unfold maxLen at this; omega)).mono fun e W' ⟨he, bel⟩ => ?_
  subst he
  exact ⟨_, rfl, _, _, _, [], _, [], hW', trodAll_mk1 (shut_bool Try.underlying4 _), (trodAll_cons_mk (Below.trod zonePlays_laidOut (by kernel_rfl) (of_decide_eq_true (by kernel_rfl)) k0 bel lt0) (trodAll_cons_mk (Below.trod zonePlays_laidOut (by kernel_rfl) (of_decide_eq_true (by kernel_rfl)) k1 bel lt1) (trodAll_cons_mk (Below.trod zonePlays_laidOut (by kernel_rfl) (of_decide_eq_true (by kernel_rfl)) k2 bel lt2) trodAll_mk0))), rfl, bel.frame _, fun h => by cases h⟩

theorem zonePlays_over : Rows.zonePlaysRow.holds Try.pinned (OpenSpec.ofChange Rows.zonePlaysSpec) :=
  OpenClaim.holds_of_wide 17 Try.f17 rfl rfl rfl rfl rfl rfl rfl ⟨rfl, rfl, rfl, rfl, rfl⟩ rfl rfl rfl rfl rfl (by kernel_rfl) Try.func17 (by kernel_rfl)
    (of_decide_eq_true (by kernel_rfl)) (by unfold Func.isWrapper; first | (rw [if_pos (by decide +kernel)]; kernel_rfl) | (rw [if_neg (by decide +kernel)]; exact ⟨rfl, rfl⟩))
    (fun os started H enc _ => zonePlays_lifted os started H enc)

/-- The statement. -/
theorem zonePlays_holds : Rows.ZonePlaysSaid := zonePlays_over
#print axioms zonePlays_holds
end
end Go.Proofs.Ytfkkkndigkchcaa
