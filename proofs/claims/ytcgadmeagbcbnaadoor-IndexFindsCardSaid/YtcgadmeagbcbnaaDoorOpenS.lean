/- How a slice of numbers that came in is opened. No condition. -/
import Derived.Test.YtcgadmeagbcbnaaDoorArr
import Derived.ProofKit
import Derived.OpenShut
import Derived.ShutString
import Derived.ChangeOld
import Derived.ChangeSlices
import Derived.Below
import Derived.Lib.SmallJoins
namespace Go.Proofs.YtcgadmeagbcbnaaDoor
open Go.ChangeShapes Go.WideShapes Go.ChangeAt Go.RowKit

theorem open_intsW {H : Type} {enc : TypeId × Value → H} {P : Program} {W : World} {r : Reach} {b0 b : Nat} {held : Bool} {t e : TypeId} {v : Value} {d : DataW H} {p : List MemPlace}
    (ht : P.underlying t = some (.slice e)) (he : P.underlying e = some (.int .i64)) (hc : P.cellsOf e = 1)
    (hv : Value.okWide P W r b0 t v) (h : DataW.Trod enc P W b (fun _ => true) held t v d p) :
    ∃ (a : Option Addr) (c : Nat) (l : List Int), v = .slice a l.length c ∧ Ints W W.heap.size v l ∧ (∀ n ∈ l, (Lit.int .i64 n).wf = true) ∧ l.length ≤ maxLen := by
  obtain ⟨a0, len, cap, rfl⟩ := okWide_slice ht hv
  obtain ⟨fuel, hf⟩ := h
  rcases open_ints ht he hc hf with ⟨hcs, _⟩ | ⟨a, len', cap', zs, hcs, _, hl, hm, hz, _, hcell, hwz⟩
  · simp [Value.cells] at hcs
    obtain ⟨rfl, rfl, rfl⟩ := hcs
    exact ⟨none, 0, [], rfl, Ints.nil _ _, by simp, by simp⟩
  · simp [Value.cells] at hcs
    obtain ⟨rfl, rfl, rfl⟩ := hcs
    simp only [if_true] at hz
    have hlen : (zs.take len).length = len := by rw [List.length_take]; omega
    refine ⟨some a, cap, zs.take len, by rw [hlen], ?_, fun n hn => hwz n (List.mem_of_mem_take hn), by rw [hlen]; omega⟩
    by_cases hl0 : len = 0
    · subst hl0
      exact .inl ⟨rfl, some a, cap, rfl, fun e => by cases e⟩
    · obtain ⟨bk, off, spot⟩ := a
      have h0 := hcell 0 (by omega)
      have hspot : spot = none := by simpa [Addr.add] using World.cell?_spot h0
      subst hspot
      refine .inr ⟨bk, off, cap, by rw [hlen], by rw [hlen]; exact hl, ?_, fun j hj => ?_⟩
      · have := World.block_lt_of_cell? _ _ h0
        exact this
      · rw [hlen] at hj
        have := hcell j (by omega)
        rw [add_plain] at this
        rw [this]
        simp [List.getD_eq_getElem?_getD, hj]
/-- l[:m]. -/
theorem Ints.cut {w : World} {n k m c : Nat} {a : Option Addr} {l : List Int} (h : Ints w n (.slice a k c) l) (hm : m ≤ k) : Ints w n (.slice a m c) (l.take m) := by
  rcases h with ⟨rfl, a', c', e, hn⟩ | ⟨b, o, c', e, hl, h1, h2⟩
  · injection e with e1 e2 e3
    subst e1 e2 e3
    obtain rfl : m = 0 := by omega
    exact .inl ⟨rfl, a, c, rfl, hn⟩
  · injection e with e1 e2 e3
    subst e1 e2 e3
    have hlen : (l.take m).length = m := by rw [List.length_take]; omega
    refine .inr ⟨b, o, c, by rw [hlen], by omega, h1, fun j hj => ?_⟩
    rw [hlen] at hj
    rw [h2 j (by omega)]
    simp [List.getD_eq_getElem?_getD, hj]
theorem Ints.cap {w : World} {n k c : Nat} {a : Option Addr} {l : List Int} (h : Ints w n (.slice a k c) l) : k ≤ c := by
  rcases h with ⟨_, _, _, e, _⟩ | ⟨_, _, _, e, hl, _⟩
  · injection e with _ e _; omega
  · injection e with _ e1 e2; omega
end Go.Proofs.YtcgadmeagbcbnaaDoor
