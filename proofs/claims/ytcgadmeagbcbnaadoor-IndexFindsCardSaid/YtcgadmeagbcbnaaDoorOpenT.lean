/- How a slice of structs of numbers of one kind that came in is opened. No condition. -/
import Derived.Test.YtcgadmeagbcbnaaDoorOpenA
import Derived.Deep.Fields
import Derived.ChangeSame
namespace Go.Proofs.YtcgadmeagbcbnaaDoor
open Go.ChangeShapes Go.WideShapes Go.ChangeAt Go.RowKit Go.Deep

section
variable {H : Type} {enc : TypeId × Value → H} {P : Program} {w : World} {base : Nat} {spare : Nat → Bool} {held : Bool}
theorem open_slice_fields {t e : TypeId} {fs : Array Field} {fuel : Nat} {cs : List Value} {x : DataW H × List MemPlace} (ht : P.underlying t = some (.slice e)) (he : P.underlying e = some (.struct fs))
    (hone : oneCellFields P fs = true) (hC : P.cellsOf e = fs.size) (h : DataW.trod enc P w base spare held fuel t cs = some x) :
    (cs = [.slice none 0 0] ∧ x = (.nil, [])) ∨
    ∃ (a : Addr) (len cap m : Nat), cs = [.slice (some a) len cap] ∧ base ≤ a.block ∧ len ≤ cap ∧ cap ≤ maxLen ∧ m = (if spare a.block then cap else len) ∧
      ∀ i, i < m → ∃ n : Nat, ∀ (j : Nat) (f : Field), fs[j]? = some f → ∃ (v : Value) (y : DataW H × List MemPlace), w.cell? (a.add (i * fs.size + j)) = some v ∧ DataW.trod enc P w base spare held n f.type [v] = some y := by
  rcases open_slice ht h with h0 | ⟨a, len, cap, m, n, D, Pl, hcs, hb, hl, hm, hmm, hx, hi⟩
  · exact .inl h0
  · refine .inr ⟨a, len, cap, m, hcs, hb, hl, hm, hmm, fun i him => ?_⟩
    obtain ⟨cs', hc, ht'⟩ := hi i him
    rw [hC] at hc
    obtain ⟨ys, n', hn', hy, hlen, hyl, hf⟩ := DataW.trod_struct he ht'
    obtain ⟨_, hcl, hat⟩ := World.cells?_some hc
    refine ⟨n', fun j f hj => ?_⟩
    obtain ⟨ho, hk⟩ := hone_of hone j f hj
    have hjl : j < fs.size := (Array.getElem?_eq_some_iff.1 hj).1
    have hcell := hat j hjl
    have hv : cs'[j]? = some (cs'[j]'(by omega)) := List.getElem?_eq_getElem (by omega)
    have h1 := hf j f hj
    rw [ho, hk] at h1
    have hone' : (cs'.drop j).take 1 = [cs'[j]'(by omega)] := by
      rw [List.drop_eq_getElem_cons (by omega)]
      rfl
    rw [hone'] at h1
    have hys : ys[j]? = some (ys[j]'(by omega)) := List.getElem?_eq_getElem (by omega)
    refine ⟨_, _, ?_, h1.trans hys⟩
    rw [← Go.Deep.add_add, hcell, hv]
end
theorem open_structs {H : Type} {enc : TypeId × Value → H} {P : Program} {W : World} {r : Reach} {b0 b : Nat} {held : Bool} {t e : TypeId} {fs : Array Field} {q : IntKind} {v : Value} {d : DataW H} {p : List MemPlace}
    (ht : P.underlying t = some (.slice e)) (he : P.underlying e = some (.struct fs)) (hone : oneCellFields P fs = true) (hC : P.cellsOf e = fs.size) (hq : ∀ (j : Nat) (f : Field), fs[j]? = some f → P.underlying f.type = some (.int q)) (hc0 : 0 < fs.size)
    (hv : Value.okWide P W r b0 t v) (h : DataW.Trod enc P W b (fun _ => true) held t v d p) :
    ∃ (a : Option Addr) (len cap : Nat) (F : Nat → Nat → Int), v = .slice a len cap ∧ len ≤ cap ∧ cap ≤ maxLen ∧ Rws W W.heap.size q fs.size v len F := by
  obtain ⟨a0, len, cap, rfl⟩ := okWide_slice ht hv
  obtain ⟨fuel, hf⟩ := h
  rcases open_slice_fields ht he hone hC hf with ⟨hcs, _⟩ | ⟨a, len', cap', m, hcs, _, hl, hm, hmm, hx⟩
  · simp [Value.cells] at hcs
    obtain ⟨rfl, rfl, rfl⟩ := hcs
    exact ⟨none, 0, 0, fun _ _ => 0, rfl, Nat.le_refl _, Nat.zero_le _, none, 0, rfl, Nat.le_refl _, Nat.zero_le _, .inl rfl⟩
  · simp [Value.cells] at hcs
    obtain ⟨rfl, rfl, rfl⟩ := hcs
    have each : ∀ i, i < len → ∀ j, j < fs.size → ∃ x : Int, W.cell? (a.add (i * fs.size + j)) = some (.int q x) ∧ (Lit.int q x).wf = true := fun i hi j hj => by
      obtain ⟨n, hn⟩ := hx i (by rw [hmm]; simp; omega)
      obtain ⟨u, y, hc, hy⟩ := hn j fs[j] (by simp [hj])
      obtain ⟨x, e2, _, hw⟩ := DataW.trod_int (hq j fs[j] (by simp [hj])) hy
      have e3 : u = .int q x := by simpa using e2
      exact ⟨x, by rw [← e3]; exact hc, hw⟩
    obtain ⟨F, hF⟩ : ∃ F : Nat → Nat → Int, ∀ i, i < len → ∀ j, j < fs.size → W.cell? (a.add (i * fs.size + j)) = some (.int q (F i j)) ∧ (Lit.int q (F i j)).wf = true :=
      ⟨fun i j => if h : i < len ∧ j < fs.size then Classical.choose (each i h.1 j h.2) else 0, fun i hi j hj => by simpa [hi, hj] using Classical.choose_spec (each i hi j hj)⟩
    refine ⟨some a, len, cap, F, rfl, hl, hm, some a, cap, rfl, hl, hm, ?_⟩
    by_cases hl0 : len = 0
    · exact .inl hl0
    · obtain ⟨bk, off, spot⟩ := a
      have c0 := (hF 0 (by omega) 0 hc0).1
      have hspot : spot = none := by simpa [Addr.add] using World.cell?_spot c0
      subst hspot
      refine .inr ⟨bk, off, rfl, ?_, fun i hi j hj => ?_⟩
      · have := World.block_lt_of_cell? _ _ c0
        rw [add_plain] at this
        exact this
      · have h5 := hF i hi j hj
        rw [add_plain] at h5
        rw [Nat.add_assoc]
        exact h5
end Go.Proofs.YtcgadmeagbcbnaaDoor
