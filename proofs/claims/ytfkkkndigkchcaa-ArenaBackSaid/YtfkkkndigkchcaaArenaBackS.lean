/- What ArenaBack holds beside its arena: rows of handles. No condition. -/
import Derived.Test.YtfkkkndigkchcaaArenaDoneW
import Derived.Test.YtfkkkndigkchcaaArenaInts
import Derived.Test.YtfkkkndigkchcaaArenaW
namespace Go.Proofs.Ytfkkkndigkchcaa
open Go.RowKit
attribute [local irreducible] Calls
theorem DoneSt.split {w0 w wr : World} {col : Nat → Nat} {c A Bb Ba T base cap k : Nat} {q : List Int × List (Int × Int)} {M : AM} {v : Value} {l : List Int} (h : DoneSt w0 w wr col c A Bb Ba T base cap k q M v l) :
    ∃ cr, AS w0 wr cr c A Bb Ba T base cap k q M ∧ RowC wr cr (c + 1) w.heap.size 3 1 v l.length (l.map (Value.int .i64)) ∧ ∀ d b v' n xs, d ≠ c → RowC w col d b 3 1 v' n xs → RowC wr cr d b 3 1 v' n xs := by
  obtain ⟨cr, h1, h2, h3, h4⟩ := h
  refine ⟨cr, h3, h4, fun d b v' n xs hd hr => ⟨ownsRow_block hr.1 fun j hj => ?_, fun j hj => ?_⟩⟩
  · have hl := (World.ownsRow.lt hr.1 j hj).2
    exact h2.block j hl (fun e => hd ((hr.2 j hj).symm.trans e))
  · exact (h1 j (World.ownsRow.lt hr.1 j hj).2).trans (hr.2 j hj)
end Go.Proofs.Ytfkkkndigkchcaa
