/- done, of layer 8, as a plain function; and its state. No condition. -/
import Derived.Test.YtfkkkndigkchcaaArenaRowS
import Derived.Test.YtfkkkndigkchcaaArenaAll
namespace Go.Proofs.Ytfkkkndigkchcaa
open Go.RowKit
attribute [local irreducible] Calls

def stepD (s : AM × List Int) (x : Int) : AM × List Int :=
  if x % 3 = 1 then
    if 0 ≤ s.1.slot (s.1.at (x / 3 % 20)) then (s.1.free (s.1.slot (s.1.at (x / 3 % 20))).toNat, s.2) else s
  else match s.1.row with
    | [] => s
    | t :: r => (s.1.make t r, s.2 ++ [256 * ((s.1.g.getD t 0 + 1 : Nat) : Int) + t])
/-- What the first n bytes do. -/
def runD (F : Nat → Int) : Nat → AM × List Int → AM × List Int
  | 0, s => s
  | n + 1, s => stepD (runD F n s) (F n)
theorem stepD_len (s : AM × List Int) (x : Int) : (stepD s x).2.length ≤ s.2.length + 1 := by
  unfold stepD
  split
  · split
    · simp
    · omega
  · split
    · omega
    · simp
theorem runD_len (F : Nat → Int) (n : Nat) (s : AM × List Int) : (runD F n s).2.length ≤ s.2.length + n := by
  induction n with
  | zero => exact Nat.le_refl _
  | succ n ih => have := stepD_len (runD F n s) (F n); show (stepD _ _).2.length ≤ _; omega

/-- The arena and the row of its handles, while done goes; w: the world at done's door, col its colours. -/
def DoneSt (w0 w wr : World) (col : Nat → Nat) (c A Bb Ba T base cap k : Nat) (q : List Int × List (Int × Int)) (M : AM) (v : Value) (l : List Int) : Prop :=
  ∃ cr, (∀ j, j < w.heap.size → cr j = col j) ∧ Moved w wr (fun j => col j = c) ∧ AS w0 wr cr c A Bb Ba T base cap k q M ∧ RowC wr cr (c + 1) w.heap.size 3 1 v l.length (l.map (Value.int .i64))
section
variable {w0 w wr w' : World} {col : Nat → Nat} {c A Bb Ba T base cap k n : Nat} {q : List Int × List (Int × Int)} {M M' : AM} {v : Value} {l : List Int}
theorem DoneSt.first (h : AS w0 w col c A Bb Ba T base cap k q M) : DoneSt w0 w w col c A Bb Ba T base cap k q M (.slice none 0 0) [] :=
  ⟨col, fun _ _ => rfl, ⟨rfl, rfl, rfl, Nat.le_refl _, fun _ _ _ => rfl⟩, h, RowC.nil _ _ _ _ _ _⟩
/-- The arena was written. -/
theorem DoneSt.step (h : DoneSt w0 w wr col c A Bb Ba T base cap k q M v l) (hf : ∀ cr, AS w0 wr cr c A Bb Ba T base cap k q M → ASN w0 wr w' cr c A Bb Ba T base cap n q M') : DoneSt w0 w w' col c A Bb Ba T base cap n q M' v l := by
  obtain ⟨cr, h1, h2, h3, h4⟩ := h
  have hN := hf cr h3
  refine ⟨_, fun j hj => ?_, ?_, hN.1, h4.step hN.2 (fun _ h _ => h) (by omega)⟩
  · exact (recol_lt (Nat.lt_of_lt_of_le hj h2.size)).trans (h1 j hj)
  · refine ⟨hN.2.os.trans h2.os, hN.2.tape.trans h2.tape, hN.2.output.trans h2.output, Nat.le_trans h2.size hN.2.size, fun j hj hne => ?_⟩
    exact (hN.2.block j (Nat.lt_of_lt_of_le hj h2.size) (by rw [h1 j hj]; exact hne)).trans (h2.block j hj hne)
theorem DoneSt.below (h : DoneSt w0 w wr col c A Bb Ba T base cap k q M v l) (hb : Below wr.heap.size wr w') : DoneSt w0 w w' col c A Bb Ba T base cap k q M v l := by
  obtain ⟨cr, h1, h2, h3, h4⟩ := h
  refine ⟨_, fun j hj => (recol_lt (Nat.lt_of_lt_of_le hj h2.size)).trans (h1 j hj), ?_, h3.below hb (c + 2), h4.made (c + 2) hb⟩
  exact ⟨hb.os.trans h2.os, hb.tape.trans h2.tape, hb.output.trans h2.output, Nat.le_trans h2.size hb.size, fun j hj hne => (hb.block j (Nat.lt_of_lt_of_le hj h2.size)).trans (h2.block j hj hne)⟩
theorem DoneSt.app {v' : Value} {x : Int} (h : DoneSt w0 w wr col c A Bb Ba T base cap k q M v l) (h0 : w0.heap.size ≤ w.heap.size) (o : Obj) (hw : w'.ownsRow w.heap.size 3 1 v' (l.length + 1) (l.map (Value.int .i64) ++ [.int .i64 x])) (hg : (wr.alloc o).grownBy w' v.ownBlock) (hf : ∀ k, v'.ownBlock = some k → v.ownBlock = some k ∨ (wr.alloc o).heap.size ≤ k) :
    DoneSt w0 w w' col c A Bb Ba T base cap k q M v' (l ++ [x]) := by
  have hb : Below wr.heap.size wr (wr.alloc o) := fb_alloc (Below.refl _ _) o
  obtain ⟨cr, h1, h2, h3, h4⟩ := h.below hb
  have hrb := row_base h4.1
  have hm := moved_grown hg
  refine ⟨_, fun j hj => (recol_lt (Nat.lt_of_lt_of_le hj h2.size)).trans (h1 j hj), ?_, h3.moved (a := c + 1) hm (fun j hj _ => h4.2 j hj) (fun j hj => Nat.le_trans h0 (hrb j hj)) (by omega), ?_⟩
  · exact ⟨hm.os.trans h2.os, hm.tape.trans h2.tape, hm.output.trans h2.output, Nat.le_trans h2.size hm.size, fun j hj hne => (hm.block j (Nat.lt_of_lt_of_le hj h2.size) (fun hs => absurd (hrb j hs) (by omega))).trans (h2.block j hj hne)⟩
  · rw [List.length_append, List.length_singleton, List.map_append, List.map_singleton]
    exact h4.grew hw hf
theorem DoneSt.last (h : DoneSt w0 w wr col c A Bb Ba T base cap k q M v l) : ASN w0 w wr col c A Bb Ba T base cap k q M ∧ IRow wr w.heap.size v l := by
  obtain ⟨cr, h1, h2, ⟨O, p, g1, g2, g3, g4⟩, h4⟩ := h
  have hx : ∀ j, cr j = c → recol w.heap.size col c j = c := fun j hj => by
    by_cases e : j < w.heap.size
    · exact (recol_lt e).trans ((h1 j e).symm.trans hj)
    · exact recol_ge (by omega)
  exact ⟨⟨⟨O, p, ⟨fun j hj => hx j (g1.1 j hj), hx A g1.2.1, hx Bb g1.2.2.1, hx Ba g1.2.2.2⟩, g2, g3, g4⟩, h2⟩, h4.1⟩
end
end Go.Proofs.Ytfkkkndigkchcaa
