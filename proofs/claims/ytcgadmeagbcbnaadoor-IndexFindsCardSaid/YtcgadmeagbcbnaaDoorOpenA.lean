/- How a slice of arrays of numbers that came in is opened. No condition. -/
import Derived.Test.YtcgadmeagbcbnaaDoorOpenS
import Derived.Deep.Slices
namespace Go.Proofs.YtcgadmeagbcbnaaDoor
open Go.ChangeShapes Go.WideShapes Go.ChangeAt Go.RowKit Go.Deep

/-- The slice value's len elements are rows of c numbers of the kind q; they lie below block n. -/
def Rws (W : World) (n : Nat) (q : IntKind) (c : Nat) (v : Value) (len : Nat) (F : Nat → Nat → Int) : Prop :=
  ∃ a cap, v = .slice a len cap ∧ len ≤ cap ∧ cap ≤ maxLen ∧ (len = 0 ∨ ∃ b o, a = some ⟨b, o, none⟩ ∧ b < n ∧ ∀ i, i < len → ∀ j, j < c → W.cell? ⟨b, o + i * c + j, none⟩ = some (.int q (F i j)) ∧ (Lit.int q (F i j)).wf = true)
theorem Rws.below {W W' : World} {n m : Nat} {q : IntKind} {c : Nat} {v : Value} {len : Nat} {F : Nat → Nat → Int} (h : Rws W n q c v len F) (hb : Below m W W') (hn : n ≤ m) : Rws W' n q c v len F := by
  obtain ⟨a, cap, e, h1, h2, h3⟩ := h
  refine ⟨a, cap, e, h1, h2, h3.imp id fun ⟨b, o, e1, e2, e3⟩ => ⟨b, o, e1, e2, fun i hi j hj => ⟨(hb.cell (p := ⟨b, _, none⟩) (by exact Nat.lt_of_lt_of_le e2 hn)).trans (e3 i hi j hj).1, (e3 i hi j hj).2⟩⟩⟩
theorem open_rows {H : Type} {enc : TypeId × Value → H} {P : Program} {W : World} {r : Reach} {b0 b : Nat} {held : Bool} {t e e1 : TypeId} {q : IntKind} {c : Nat} {v : Value} {d : DataW H} {p : List MemPlace}
    (ht : P.underlying t = some (.slice e)) (he : P.underlying e = some (.array c e1)) (h1 : P.underlying e1 = some (.int q)) (hc : P.cellsOf e = c) (hc1 : P.cellsOf e1 = 1) (hc0 : 0 < c)
    (hv : Value.okWide P W r b0 t v) (h : DataW.Trod enc P W b (fun _ => true) held t v d p) :
    ∃ (a : Option Addr) (len cap : Nat) (F : Nat → Nat → Int), v = .slice a len cap ∧ len ≤ cap ∧ cap ≤ maxLen ∧ Rws W W.heap.size q c v len F := by
  obtain ⟨a0, len, cap, rfl⟩ := okWide_slice ht hv
  obtain ⟨fuel, hf⟩ := h
  rcases open_slice ht hf with ⟨hcs, _⟩ | ⟨a, len', cap', m, n, D, Pl, hcs, _, hl, hm, hmm, _, hx⟩
  · simp [Value.cells] at hcs
    obtain ⟨rfl, rfl, rfl⟩ := hcs
    exact ⟨none, 0, 0, fun _ _ => 0, rfl, Nat.le_refl _, Nat.zero_le _, none, 0, rfl, Nat.le_refl _, Nat.zero_le _, .inl rfl⟩
  · simp [Value.cells] at hcs
    obtain ⟨rfl, rfl, rfl⟩ := hcs
    rw [hc] at hx
    have key : ∀ i, i < len → ∃ f : Nat → Int, ∀ j, j < c → W.cell? ((a.add (i * c)).add j) = some (.int q (f j)) ∧ (Lit.int q (f j)).wf = true := fun i hi => by
      obtain ⟨cs', g1, g2⟩ := hx i (by rw [hmm]; simp; omega)
      obtain ⟨_, hlen, hcell⟩ := World.cells?_some g1
      obtain ⟨xs, k, _, _, _, _, hall⟩ := DataW.trod_array he g2
      have each : ∀ j, j < c → ∃ x : Int, W.cell? ((a.add (i * c)).add j) = some (.int q x) ∧ (Lit.int q x).wf = true := fun j hj => by
        have h2 := hall j hj
        rw [hc1, Nat.mul_one] at h2
        have h3 : ((cs'.drop j).take 1) = [cs'[j]'(by omega)] := by
          rw [List.drop_eq_getElem_cons (by omega)]; rfl
        rw [h3] at h2
        have hxs : ∃ y, xs[j]? = some y := ⟨xs[j]'(by omega), by simp [show j < xs.length by omega]⟩
        obtain ⟨y, hy⟩ := hxs
        rw [hy] at h2
        obtain ⟨x, e2, _, hw⟩ := DataW.trod_int h1 h2
        have e3 : cs'[j]'(by omega) = .int q x := by simpa using e2
        refine ⟨x, ?_, hw⟩
        have h4 := hcell j (by omega)
        rw [← e3]
        simpa [show j < cs'.length by omega] using h4
      exact ⟨fun j => if h : j < c then Classical.choose (each j h) else 0, fun j hj => by simpa [hj] using Classical.choose_spec (each j hj)⟩
    obtain ⟨F, hF⟩ : ∃ F : Nat → Nat → Int, ∀ i, i < len → ∀ j, j < c → W.cell? ((a.add (i * c)).add j) = some (.int q (F i j)) ∧ (Lit.int q (F i j)).wf = true :=
      ⟨fun i => if h : i < len then Classical.choose (key i h) else fun _ => 0, fun i hi => by simpa [hi] using Classical.choose_spec (key i hi)⟩
    refine ⟨some a, len, cap, F, rfl, hl, hm, some a, cap, rfl, hl, hm, ?_⟩
    by_cases hl0 : len = 0
    · exact .inl hl0
    · obtain ⟨bk, off, spot⟩ := a
      have c0 := (hF 0 (by omega) 0 hc0).1
      have hspot : spot = none := by simpa [Addr.add] using World.cell?_spot c0
      subst hspot
      refine .inr ⟨bk, off, rfl, ?_, fun i hi j hj => ?_⟩
      · have := World.block_lt_of_cell? _ _ c0
        rw [add_plain, add_plain] at this
        exact this
      · have h5 := hF i hi j hj
        rw [add_plain, add_plain] at h5
        exact h5
end Go.Proofs.YtcgadmeagbcbnaaDoor
