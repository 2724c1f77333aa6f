/- How an array of four slices of arrays of numbers that came in is opened. No condition. -/
import Derived.Test.YtfkkkndigkchcaaOpenA
import Derived.Test.YtfkkkndigkchcaaOpen
namespace Go.Proofs.Ytfkkkndigkchcaa
open Go.ChangeShapes Go.WideShapes Go.ChangeAt Go.RowKit Go.Deep

theorem rows_cells {H : Type} {enc : TypeId × Value → H} {P : Program} {W : World} {b : Nat} {held : Bool} {t e e1 : TypeId} {q : IntKind} {c : Nat} {v : Value} {fuel : Nat} {d : DataW H × List MemPlace}
    (ht : P.underlying t = some (.slice e)) (he : P.underlying e = some (.array c e1)) (h1 : P.underlying e1 = some (.int q)) (hc : P.cellsOf e = c) (hc1 : P.cellsOf e1 = 1) (hc0 : 0 < c)
    (hf : DataW.trod enc P W b (fun _ => true) held fuel t [v] = some d) :
    ∃ (a : Option Addr) (len cap : Nat) (F : Nat → Nat → Int), v = .slice a len cap ∧ len ≤ cap ∧ cap ≤ maxLen ∧ Rws W W.heap.size q c v len F := by
  rcases open_slice ht hf with ⟨hcs, _⟩ | ⟨a, len', cap', m, n, D, Pl, hcs, _, hl, hm, hmm, _, hx⟩
  · injection hcs with hcs _
    subst hcs
    exact ⟨none, 0, 0, fun _ _ => 0, rfl, Nat.le_refl _, Nat.zero_le _, none, 0, rfl, Nat.le_refl _, Nat.zero_le _, .inl rfl⟩
  · injection hcs with hcs _
    subst hcs
    obtain ⟨len, rfl⟩ : ∃ x, x = len' := ⟨_, rfl⟩
    obtain ⟨cap, rfl⟩ : ∃ x, x = cap' := ⟨_, rfl⟩
    rw [hc] at hx
    have key : ∀ i, i < len → ∃ f : Nat → Int, ∀ j, j < c → W.cell? ((a.add (i * c)).add j) = some (.int q (f j)) ∧ (Lit.int q (f j)).wf = true := fun i hi => by
      obtain ⟨cs', g1, g2⟩ := hx i (by rw [hmm]; simp; omega)
      obtain ⟨_, hlen, hcell⟩ := World.cells?_some g1
      obtain ⟨xs, k, _, _, _, _, hall⟩ := DataW.trod_array he g2
      have each : ∀ j, j < c → ∃ x : Int, W.cell? ((a.add (i * c)).add j) = some (.int q x) ∧ (Lit.int q x).wf = true := fun j hj => by
        have h2 := hall j hj
        rw [hc1, Nat.mul_one] at h2
        have h3 : ((cs'.drop j).take 1) = [cs'[j]'(by omega)] := by
          rw [List.drop_eq_getElem_cons (by omega)]; rfl
        rw [h3] at h2
        have hxs : ∃ y, xs[j]? = some y := ⟨xs[j]'(by omega), by simp [show j < xs.length by omega]⟩
        obtain ⟨y, hy⟩ := hxs
        rw [hy] at h2
        obtain ⟨x, e2, _, hw⟩ := DataW.trod_int h1 h2
        have e3 : cs'[j]'(by omega) = .int q x := by simpa using e2
        refine ⟨x, ?_, hw⟩
        have h4 := hcell j (by omega)
        rw [← e3]
        simpa [show j < cs'.length by omega] using h4
      exact ⟨fun j => if h : j < c then Classical.choose (each j h) else 0, fun j hj => by simpa [hj] using Classical.choose_spec (each j hj)⟩
    obtain ⟨F, hF⟩ : ∃ F : Nat → Nat → Int, ∀ i, i < len → ∀ j, j < c → W.cell? ((a.add (i * c)).add j) = some (.int q (F i j)) ∧ (Lit.int q (F i j)).wf = true :=
      ⟨fun i => if h : i < len then Classical.choose (key i h) else fun _ => 0, fun i hi => by simpa [hi] using Classical.choose_spec (key i hi)⟩
    refine ⟨some a, len, cap, F, rfl, hl, hm, some a, cap, rfl, hl, hm, ?_⟩
    by_cases hl0 : len = 0
    · exact .inl hl0
    · obtain ⟨bk, off, spot⟩ := a
      have c0 := (hF 0 (by omega) 0 hc0).1
      have hspot : spot = none := by simpa [Addr.add] using World.cell?_spot c0
      subst hspot
      refine .inr ⟨bk, off, rfl, ?_, fun i hi j hj => ?_⟩
      · have := World.block_lt_of_cell? _ _ c0
        rw [add_plain, add_plain] at this
        exact this
      · have h5 := hF i hi j hj
        rw [add_plain, add_plain] at h5
        exact h5

theorem open_arr4_rows {H : Type} {enc : TypeId × Value → H} {P : Program} {W : World} {r : Reach} {b0 b : Nat} {held : Bool} {t0 t e e1 : TypeId} {q : IntKind} {c : Nat} {v : Value} {d : DataW H} {p : List MemPlace}
    (h0 : P.underlying t0 = some (.array 4 t)) (hC : P.cellsOf t0 = 4) (hct : P.cellsOf t = 1)
    (ht : P.underlying t = some (.slice e)) (he : P.underlying e = some (.array c e1)) (h1 : P.underlying e1 = some (.int q)) (hc : P.cellsOf e = c) (hc1 : P.cellsOf e1 = 1) (hc0 : 0 < c)
    (hv : Value.okWide P W r b0 t0 v) (h : DataW.Trod enc P W b (fun _ => true) held t0 v d p) :
    ∃ (A : Nat → Option Addr) (L C : Nat → Nat) (F : Nat → Nat → Nat → Int), v = .agg #[.slice (A 0) (L 0) (C 0), .slice (A 1) (L 1) (C 1), .slice (A 2) (L 2) (C 2), .slice (A 3) (L 3) (C 3)] ∧ ∀ i, i < 4 → L i ≤ C i ∧ C i ≤ maxLen ∧ Rws W W.heap.size q c (.slice (A i) (L i) (C i)) (L i) (F i) := by
  obtain ⟨cs, rfl, hsz, _⟩ : ∃ cs, v = .agg cs ∧ cs.size = P.cellsOf t0 ∧ Row.okWide P W r b0 t0 cs := by
    have := hv
    simpa [Value.okWide, h0] using this
  rw [hC] at hsz
  obtain ⟨c0, c1, c2, c3, rfl⟩ := Joins.array4 hsz
  obtain ⟨fuel, hf⟩ := h
  obtain ⟨y0, y1, y2, y3, m, hx, hy0, hy1, hy2, hy3⟩ := trod_array4 h0 hct hf
  obtain ⟨a0, l0, k0, F0, rfl, q0⟩ := rows_cells ht he h1 hc hc1 hc0 hy0
  obtain ⟨a1, l1, k1, F1, rfl, q1⟩ := rows_cells ht he h1 hc hc1 hc0 hy1
  obtain ⟨a2, l2, k2, F2, rfl, q2⟩ := rows_cells ht he h1 hc hc1 hc0 hy2
  obtain ⟨a3, l3, k3, F3, rfl, q3⟩ := rows_cells ht he h1 hc hc1 hc0 hy3
  refine ⟨fun i => [a0, a1, a2, a3].getD i none, fun i => [l0, l1, l2, l3].getD i 0, fun i => [k0, k1, k2, k3].getD i 0, fun i => [F0, F1, F2, F3].getD i F0, rfl, fun i hi => ?_⟩
  match i, hi with
  | 0, _ => exact q0
  | 1, _ => exact q1
  | 2, _ => exact q2
  | 3, _ => exact q3
end Go.Proofs.Ytfkkkndigkchcaa
