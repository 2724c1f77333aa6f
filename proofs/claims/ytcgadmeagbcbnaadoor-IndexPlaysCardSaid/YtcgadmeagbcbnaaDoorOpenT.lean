/- How a slice of numbers that came in is opened. No condition. How a slice of arrays of numbers that came in is opened. No condition. How a slice of structs of numbers of one kind that came in is opened. No condition. -/
import Derived.Test.YtcgadmeagbcbnaaDoorArr
import Derived.ProofKit
import Derived.OpenShut
import Derived.ShutString
import Derived.ChangeOld
import Derived.ChangeSlices
import Derived.Below
import Derived.Lib.SmallJoins
import Derived.Deep.Slices
import Derived.Deep.Fields
import Derived.ChangeSame
namespace Go.Proofs.YtcgadmeagbcbnaaDoor
section
open Go.ChangeShapes Go.WideShapes Go.ChangeAt Go.RowKit

theorem open_intsW {H : Type} {enc : TypeId × Value → H} {P : Program} {W : World} {r : Reach} {b0 b : Nat} {held : Bool} {t e : TypeId} {v : Value} {d : DataW H} {p : List MemPlace}
    (ht : P.underlying t = some (.slice e)) (he : P.underlying e = some (.int .i64)) (hc : P.cellsOf e = 1)
    (hv : Value.okWide P W r b0 t v) (h : DataW.Trod enc P W b (fun _ => true) held t v d p) :
    ∃ (a : Option Addr) (c : Nat) (l : List Int), v = .slice a l.length c ∧ Ints W W.heap.size v l ∧ (∀ n ∈ l, (Lit.int .i64 n).wf = true) ∧ l.length ≤ maxLen := by
  obtain ⟨a0, len, cap, rfl⟩ := okWide_slice ht hv
  obtain ⟨fuel, hf⟩ := h
  rcases open_ints ht he hc hf with ⟨hcs, _⟩ | ⟨a, len', cap', zs, hcs, _, hl, hm, hz, _, hcell, hwz⟩
  · simp [Value.cells] at hcs
    obtain ⟨rfl, rfl, rfl⟩ := hcs
    exact ⟨none, 0, [], rfl, Ints.nil _ _, by simp, by simp⟩
  · simp [Value.cells] at hcs
    obtain ⟨rfl, rfl, rfl⟩ := hcs
    simp only [if_true] at hz
    have hlen : (zs.take len).length = len := by rw [List.length_take]; omega
    refine ⟨some a, cap, zs.take len, by rw [hlen], ?_, fun n hn => hwz n (List.mem_of_mem_take hn), by rw [hlen]; omega⟩
    by_cases hl0 : len = 0
    · subst hl0
      exact .inl ⟨rfl, some a, cap, rfl, fun e => by cases e⟩
    · obtain ⟨bk, off, spot⟩ := a
      have h0 := hcell 0 (by omega)
      have hspot : spot = none := by simpa [Addr.add] using World.cell?_spot h0
      subst hspot
      refine .inr ⟨bk, off, cap, by rw [hlen], by rw [hlen]; exact hl, ?_, fun j hj => ?_⟩
      · have := World.block_lt_of_cell? _ _ h0
        exact this
      · rw [hlen] at hj
        have := hcell j (by omega)
        rw [add_plain] at this
        rw [this]
        simp [List.getD_eq_getElem?_getD, hj]
/-- l[:m]. -/
theorem Ints.cut {w : World} {n k m c : Nat} {a : Option Addr} {l : List Int} (h : Ints w n (.slice a k c) l) (hm : m ≤ k) : Ints w n (.slice a m c) (l.take m) := by
  rcases h with ⟨rfl, a', c', e, hn⟩ | ⟨b, o, c', e, hl, h1, h2⟩
  · injection e with e1 e2 e3
    subst e1 e2 e3
    obtain rfl : m = 0 := by omega
    exact .inl ⟨rfl, a, c, rfl, hn⟩
  · injection e with e1 e2 e3
    subst e1 e2 e3
    have hlen : (l.take m).length = m := by rw [List.length_take]; omega
    refine .inr ⟨b, o, c, by rw [hlen], by omega, h1, fun j hj => ?_⟩
    rw [hlen] at hj
    rw [h2 j (by omega)]
    simp [List.getD_eq_getElem?_getD, hj]
theorem Ints.cap {w : World} {n k c : Nat} {a : Option Addr} {l : List Int} (h : Ints w n (.slice a k c) l) : k ≤ c := by
  rcases h with ⟨_, _, _, e, _⟩ | ⟨_, _, _, e, hl, _⟩
  · injection e with _ e _; omega
  · injection e with _ e1 e2; omega
end
section
open Go.ChangeShapes Go.WideShapes Go.ChangeAt Go.RowKit Go.Deep

/-- The slice value's len elements are rows of c numbers of the kind q; they lie below block n. -/
def Rws (W : World) (n : Nat) (q : IntKind) (c : Nat) (v : Value) (len : Nat) (F : Nat → Nat → Int) : Prop :=
  ∃ a cap, v = .slice a len cap ∧ len ≤ cap ∧ cap ≤ maxLen ∧ (len = 0 ∨ ∃ b o, a = some ⟨b, o, none⟩ ∧ b < n ∧ ∀ i, i < len → ∀ j, j < c → W.cell? ⟨b, o + i * c + j, none⟩ = some (.int q (F i j)) ∧ (Lit.int q (F i j)).wf = true)
theorem Rws.below {W W' : World} {n m : Nat} {q : IntKind} {c : Nat} {v : Value} {len : Nat} {F : Nat → Nat → Int} (h : Rws W n q c v len F) (hb : Below m W W') (hn : n ≤ m) : Rws W' n q c v len F := by
  obtain ⟨a, cap, e, h1, h2, h3⟩ := h
  refine ⟨a, cap, e, h1, h2, h3.imp id fun ⟨b, o, e1, e2, e3⟩ => ⟨b, o, e1, e2, fun i hi j hj => ⟨(hb.cell (p := ⟨b, _, none⟩) (by exact Nat.lt_of_lt_of_le e2 hn)).trans (e3 i hi j hj).1, (e3 i hi j hj).2⟩⟩⟩
theorem open_rows {H : Type} {enc : TypeId × Value → H} {P : Program} {W : World} {r : Reach} {b0 b : Nat} {held : Bool} {t e e1 : TypeId} {q : IntKind} {c : Nat} {v : Value} {d : DataW H} {p : List MemPlace}
    (ht : P.underlying t = some (.slice e)) (he : P.underlying e = some (.array c e1)) (h1 : P.underlying e1 = some (.int q)) (hc : P.cellsOf e = c) (hc1 : P.cellsOf e1 = 1) (hc0 : 0 < c)
    (hv : Value.okWide P W r b0 t v) (h : DataW.Trod enc P W b (fun _ => true) held t v d p) :
    ∃ (a : Option Addr) (len cap : Nat) (F : Nat → Nat → Int), v = .slice a len cap ∧ len ≤ cap ∧ cap ≤ maxLen ∧ Rws W W.heap.size q c v len F := by
  obtain ⟨a0, len, cap, rfl⟩ := okWide_slice ht hv
  obtain ⟨fuel, hf⟩ := h
  rcases open_slice ht hf with ⟨hcs, _⟩ | ⟨a, len', cap', m, n, D, Pl, hcs, _, hl, hm, hmm, _, hx⟩
  · simp [Value.cells] at hcs
    obtain ⟨rfl, rfl, rfl⟩ := hcs
    exact ⟨none, 0, 0, fun _ _ => 0, rfl, Nat.le_refl _, Nat.zero_le _, none, 0, rfl, Nat.le_refl _, Nat.zero_le _, .inl rfl⟩
  · simp [Value.cells] at hcs
    obtain ⟨rfl, rfl, rfl⟩ := hcs
    rw [hc] at hx
    have key : ∀ i, i < len → ∃ f : Nat → Int, ∀ j, j < c → W.cell? ((a.add (i * c)).add j) = some (.int q (f j)) ∧ (Lit.int q (f j)).wf = true := fun i hi => by
      obtain ⟨cs', g1, g2⟩ := hx i (by rw [hmm]; simp; omega)
      obtain ⟨_, hlen, hcell⟩ := World.cells?_some g1
      obtain ⟨xs, k, _, _, _, _, hall⟩ := DataW.trod_array he g2
      have each : ∀ j, j < c → ∃ x : Int, W.cell? ((a.add (i * c)).add j) = some (.int q x) ∧ (Lit.int q x).wf = true := fun j hj => by
        have h2 := hall j hj
        rw [hc1, Nat.mul_one] at h2
        have h3 : ((cs'.drop j).take 1) = [cs'[j]'(by omega)] := by
          rw [List.drop_eq_getElem_cons (by omega)]; rfl
        rw [h3] at h2
        have hxs : ∃ y, xs[j]? = some y := ⟨xs[j]'(by omega), by simp [show j < xs.length by omega]⟩
        obtain ⟨y, hy⟩ := hxs
        rw [hy] at h2
        obtain ⟨x, e2, _, hw⟩ := DataW.trod_int h1 h2
        have e3 : cs'[j]'(by omega) = .int q x := by simpa using e2
        refine ⟨x, ?_, hw⟩
        have h4 := hcell j (by omega)
        rw [← e3]
        simpa [show j < cs'.length by omega] using h4
      exact ⟨fun j => if h : j < c then Classical.choose (each j h) else 0, fun j hj => by simpa [hj] using Classical.choose_spec (each j hj)⟩
    obtain ⟨F, hF⟩ : ∃ F : Nat → Nat → Int, ∀ i, i < len → ∀ j, j < c → W.cell? ((a.add (i * c)).add j) = some (.int q (F i j)) ∧ (Lit.int q (F i j)).wf = true :=
      ⟨fun i => if h : i < len then Classical.choose (key i h) else fun _ => 0, fun i hi => by simpa [hi] using Classical.choose_spec (key i hi)⟩
    refine ⟨some a, len, cap, F, rfl, hl, hm, some a, cap, rfl, hl, hm, ?_⟩
    by_cases hl0 : len = 0
    · exact .inl hl0
    · obtain ⟨bk, off, spot⟩ := a
      have c0 := (hF 0 (by omega) 0 hc0).1
      have hspot : spot = none := by simpa [Addr.add] using World.cell?_spot c0
      subst hspot
      refine .inr ⟨bk, off, rfl, ?_, fun i hi j hj => ?_⟩
      · have := World.block_lt_of_cell? _ _ c0
        rw [add_plain, add_plain] at this
        exact this
      · have h5 := hF i hi j hj
        rw [add_plain, add_plain] at h5
        exact h5
end
section
open Go.ChangeShapes Go.WideShapes Go.ChangeAt Go.RowKit Go.Deep

section
variable {H : Type} {enc : TypeId × Value → H} {P : Program} {w : World} {base : Nat} {spare : Nat → Bool} {held : Bool}
theorem open_slice_fields {t e : TypeId} {fs : Array Field} {fuel : Nat} {cs : List Value} {x : DataW H × List MemPlace} (ht : P.underlying t = some (.slice e)) (he : P.underlying e = some (.struct fs))
    (hone : oneCellFields P fs = true) (hC : P.cellsOf e = fs.size) (h : DataW.trod enc P w base spare held fuel t cs = some x) :
    (cs = [.slice none 0 0] ∧ x = (.nil, [])) ∨
    ∃ (a : Addr) (len cap m : Nat), cs = [.slice (some a) len cap] ∧ base ≤ a.block ∧ len ≤ cap ∧ cap ≤ maxLen ∧ m = (if spare a.block then cap else len) ∧
      ∀ i, i < m → ∃ n : Nat, ∀ (j : Nat) (f : Field), fs[j]? = some f → ∃ (v : Value) (y : DataW H × List MemPlace), w.cell? (a.add (i * fs.size + j)) = some v ∧ DataW.trod enc P w base spare held n f.type [v] = some y := by
  rcases open_slice ht h with h0 | ⟨a, len, cap, m, n, D, Pl, hcs, hb, hl, hm, hmm, hx, hi⟩
  · exact .inl h0
  · refine .inr ⟨a, len, cap, m, hcs, hb, hl, hm, hmm, fun i him => ?_⟩
    obtain ⟨cs', hc, ht'⟩ := hi i him
    rw [hC] at hc
    obtain ⟨ys, n', hn', hy, hlen, hyl, hf⟩ := DataW.trod_struct he ht'
    obtain ⟨_, hcl, hat⟩ := World.cells?_some hc
    refine ⟨n', fun j f hj => ?_⟩
    obtain ⟨ho, hk⟩ := hone_of hone j f hj
    have hjl : j < fs.size := (Array.getElem?_eq_some_iff.1 hj).1
    have hcell := hat j hjl
    have hv : cs'[j]? = some (cs'[j]'(by omega)) := List.getElem?_eq_getElem (by omega)
    have h1 := hf j f hj
    rw [ho, hk] at h1
    have hone' : (cs'.drop j).take 1 = [cs'[j]'(by omega)] := by
      rw [List.drop_eq_getElem_cons (by omega)]
      rfl
    rw [hone'] at h1
    have hys : ys[j]? = some (ys[j]'(by omega)) := List.getElem?_eq_getElem (by omega)
    refine ⟨_, _, ?_, h1.trans hys⟩
    rw [← Go.Deep.add_add, hcell, hv]
end
theorem open_structs {H : Type} {enc : TypeId × Value → H} {P : Program} {W : World} {r : Reach} {b0 b : Nat} {held : Bool} {t e : TypeId} {fs : Array Field} {q : IntKind} {v : Value} {d : DataW H} {p : List MemPlace}
    (ht : P.underlying t = some (.slice e)) (he : P.underlying e = some (.struct fs)) (hone : oneCellFields P fs = true) (hC : P.cellsOf e = fs.size) (hq : ∀ (j : Nat) (f : Field), fs[j]? = some f → P.underlying f.type = some (.int q)) (hc0 : 0 < fs.size)
    (hv : Value.okWide P W r b0 t v) (h : DataW.Trod enc P W b (fun _ => true) held t v d p) :
    ∃ (a : Option Addr) (len cap : Nat) (F : Nat → Nat → Int), v = .slice a len cap ∧ len ≤ cap ∧ cap ≤ maxLen ∧ Rws W W.heap.size q fs.size v len F := by
  obtain ⟨a0, len, cap, rfl⟩ := okWide_slice ht hv
  obtain ⟨fuel, hf⟩ := h
  rcases open_slice_fields ht he hone hC hf with ⟨hcs, _⟩ | ⟨a, len', cap', m, hcs, _, hl, hm, hmm, hx⟩
  · simp [Value.cells] at hcs
    obtain ⟨rfl, rfl, rfl⟩ := hcs
    exact ⟨none, 0, 0, fun _ _ => 0, rfl, Nat.le_refl _, Nat.zero_le _, none, 0, rfl, Nat.le_refl _, Nat.zero_le _, .inl rfl⟩
  · simp [Value.cells] at hcs
    obtain ⟨rfl, rfl, rfl⟩ := hcs
    have each : ∀ i, i < len → ∀ j, j < fs.size → ∃ x : Int, W.cell? (a.add (i * fs.size + j)) = some (.int q x) ∧ (Lit.int q x).wf = true := fun i hi j hj => by
      obtain ⟨n, hn⟩ := hx i (by rw [hmm]; simp; omega)
      obtain ⟨u, y, hc, hy⟩ := hn j fs[j] (by simp [hj])
      obtain ⟨x, e2, _, hw⟩ := DataW.trod_int (hq j fs[j] (by simp [hj])) hy
      have e3 : u = .int q x := by simpa using e2
      exact ⟨x, by rw [← e3]; exact hc, hw⟩
    obtain ⟨F, hF⟩ : ∃ F : Nat → Nat → Int, ∀ i, i < len → ∀ j, j < fs.size → W.cell? (a.add (i * fs.size + j)) = some (.int q (F i j)) ∧ (Lit.int q (F i j)).wf = true :=
      ⟨fun i j => if h : i < len ∧ j < fs.size then Classical.choose (each i h.1 j h.2) else 0, fun i hi j hj => by simpa [hi, hj] using Classical.choose_spec (each i hi j hj)⟩
    refine ⟨some a, len, cap, F, rfl, hl, hm, some a, cap, rfl, hl, hm, ?_⟩
    by_cases hl0 : len = 0
    · exact .inl hl0
    · obtain ⟨bk, off, spot⟩ := a
      have c0 := (hF 0 (by omega) 0 hc0).1
      have hspot : spot = none := by simpa [Addr.add] using World.cell?_spot c0
      subst hspot
      refine .inr ⟨bk, off, rfl, ?_, fun i hi j hj => ?_⟩
      · have := World.block_lt_of_cell? _ _ c0
        rw [add_plain] at this
        exact this
      · have h5 := hF i hi j hj
        rw [add_plain] at h5
        rw [Nat.add_assoc]
        exact h5
end
end Go.Proofs.YtcgadmeagbcbnaaDoor
