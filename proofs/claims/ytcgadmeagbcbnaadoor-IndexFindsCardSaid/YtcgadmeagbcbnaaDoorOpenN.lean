/- How a slice of numbers of any kind that came in is opened. No condition. -/
import Derived.Test.YtcgadmeagbcbnaaDoorOpenS
namespace Go.Proofs.YtcgadmeagbcbnaaDoor
open Go.ChangeShapes Go.WideShapes Go.ChangeAt Go.RowKit

/-- The slice value's len elements are numbers of the kind q; they lie below block n. -/
def Nums (W : World) (n : Nat) (q : IntKind) (v : Value) (len : Nat) (F : Nat → Int) : Prop :=
  ∃ a cap, v = .slice a len cap ∧ len ≤ cap ∧ cap ≤ maxLen ∧ (len = 0 ∨ ∃ b o, a = some ⟨b, o, none⟩ ∧ b < n ∧ ∀ i, i < len → W.cell? ⟨b, o + i, none⟩ = some (.int q (F i)) ∧ (Lit.int q (F i)).wf = true)
theorem open_nums {H : Type} {enc : TypeId × Value → H} {P : Program} {W : World} {r : Reach} {b0 b : Nat} {held : Bool} {t e : TypeId} {q : IntKind} {v : Value} {d : DataW H} {p : List MemPlace}
    (ht : P.underlying t = some (.slice e)) (he : P.underlying e = some (.int q)) (hc : P.cellsOf e = 1)
    (hv : Value.okWide P W r b0 t v) (h : DataW.Trod enc P W b (fun _ => true) held t v d p) :
    ∃ (a : Option Addr) (len cap : Nat) (F : Nat → Int), v = .slice a len cap ∧ len ≤ cap ∧ cap ≤ maxLen ∧ Nums W W.heap.size q v len F := by
  obtain ⟨a0, len, cap, rfl⟩ := okWide_slice ht hv
  obtain ⟨fuel, hf⟩ := h
  rcases open_ints ht he hc hf with ⟨hcs, _⟩ | ⟨a, len', cap', zs, hcs, _, hl, hm, hz, _, hcell, hwz⟩
  · simp [Value.cells] at hcs
    obtain ⟨rfl, rfl, rfl⟩ := hcs
    exact ⟨none, 0, 0, fun _ => 0, rfl, Nat.le_refl _, Nat.zero_le _, none, 0, rfl, Nat.le_refl _, Nat.zero_le _, .inl rfl⟩
  · simp [Value.cells] at hcs
    obtain ⟨rfl, rfl, rfl⟩ := hcs
    simp only [if_true] at hz
    refine ⟨some a, len, cap, fun i => zs.getD i 0, rfl, hl, hm, some a, cap, rfl, hl, hm, ?_⟩
    by_cases hl0 : len = 0
    · exact .inl hl0
    · obtain ⟨bk, off, spot⟩ := a
      have h0 := hcell 0 (by omega)
      have hspot : spot = none := by simpa [Addr.add] using World.cell?_spot h0
      subst hspot
      refine .inr ⟨bk, off, rfl, ?_, fun i hi => ?_⟩
      · have := World.block_lt_of_cell? _ _ h0
        exact this
      · have h5 := hcell i (by omega)
        rw [add_plain] at h5
        refine ⟨h5, hwz _ ?_⟩
        have : i < zs.length := by omega
        simp [List.getD_eq_getElem?_getD, this]
end Go.Proofs.YtcgadmeagbcbnaaDoor
