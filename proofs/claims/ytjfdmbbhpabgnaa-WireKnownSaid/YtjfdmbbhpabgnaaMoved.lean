/- 'Moved w w' S': w' is w, but for new blocks and for the blocks of S. No condition. -/
import Derived.Test.YtjfdmbbhpabgnaaArr
namespace Go.Proofs.Ytjfdmbbhpabgnaa
open Go.RowKit

/-- w' is w, but for new blocks and for the blocks of S. -/
structure Moved (w w' : World) (S : Nat → Prop) : Prop where
  os : w'.os = w.os
  tape : w'.tape = w.tape
  output : w'.output = w.output
  size : w.heap.size ≤ w'.heap.size
  block : ∀ k, k < w.heap.size → ¬ S k → w'.heap[k]? = w.heap[k]?
theorem Moved.refl (w : World) (S : Nat → Prop) : Moved w w S := ⟨rfl, rfl, rfl, Nat.le_refl _, fun _ _ _ => rfl⟩
theorem Moved.trans {a b c : World} {S S' : Nat → Prop} (h : Moved a b S) (h' : Moved b c S') (hs : ∀ k, S' k → S k ∨ a.heap.size ≤ k) : Moved a c S :=
  ⟨h'.os.trans h.os, h'.tape.trans h.tape, h'.output.trans h.output, Nat.le_trans h.size h'.size, fun k hk hn =>
    (h'.block k (Nat.lt_of_lt_of_le hk h.size) (fun hs' => (hs k hs').elim hn (fun h => by omega))).trans (h.block k hk hn)⟩
theorem Moved.of_below {a b : World} (h : Below a.heap.size a b) (S : Nat → Prop) : Moved a b S := ⟨h.os, h.tape, h.output, h.size, fun k hk _ => h.block k hk⟩
theorem Moved.of_set (a : World) (p : Addr) (v : Value) {S : Nat → Prop} (hp : S p.block) : Moved a (a.setCell p v) S :=
  ⟨rfl, rfl, rfl, by simp, fun k _ hn => Below.heap_setCell _ _ _ _ (fun e => hn (e ▸ hp))⟩
theorem Moved.below {a b : World} {S : Nat → Prop} (h : Moved a b S) {B : Nat} (hS : ∀ k, S k → B ≤ k) (hB : B ≤ a.heap.size) : Below B a b :=
  ⟨h.os, h.tape, h.output, h.size, fun k hk => h.block k (by omega) (fun hs => by have := hS k hs; omega)⟩
theorem Moved.of_drewN (a : World) (n : Nat) (S : Nat → Prop) : Moved a (a.drewN n) S := ⟨rfl, rfl, rfl, Nat.le_refl _, fun _ _ _ => rfl⟩
end Go.Proofs.Ytjfdmbbhpabgnaa
