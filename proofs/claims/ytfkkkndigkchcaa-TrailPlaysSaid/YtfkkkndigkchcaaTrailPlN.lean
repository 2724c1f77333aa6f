/- The document's New; what TrailPlays holds at first. No condition. -/
import Derived.Test.YtfkkkndigkchcaaTrailPlS
namespace Go.Proofs.Ytfkkkndigkchcaa
open Go.RowKit

/-- The world behind the document's New. -/
def rnewW (w : World) : World := ((w.alloc (.cells #[] 3)).alloc (.cells #[.slice (some ⟨w.heap.size, 0, none⟩) 0 0] 34)).alloc (.cells #[.slice (some ⟨w.heap.size + 1, 0, none⟩) 1 1] 95)
theorem rnew_any (w : World) : Calls Try.prog 19 #[] w fun e w' => e = .returned (.pointer (some ⟨w.heap.size + 2, 0, none⟩)) ∧ rnewW w = w' := by
  go_enter Try.func19, Try.ntmps19
  go_wp2
  go_ret
  exact ⟨rfl, rfl⟩
theorem pl_start {w w1 : World} (ht : TrS w w1 w.heap.size (ownT w.heap.size none none) [] []) :
    ∃ col, PL 0 w (rnewW w1) col w.heap.size (w1.heap.size + 2) (w1.heap.size + 1) 1 ([], []) [.slice (some ⟨w1.heap.size, 0, none⟩) 0 0] (fun _ => []) := by
  have own : ∀ k, ownT w.heap.size none none k → k = w.heap.size := fun k h => by
    rcases h with h | h | h
    · exact h
    · cases h
    · cases h
  have hlt := ht.lt
  have hb : Below w1.heap.size w1 (rnewW w1) := (((Below.refl _ w1).alloc (Nat.le_refl _) _).alloc (by simp) _).alloc (by simp; omega) _
  have a0 : Arr (rnewW w1) w1.heap.size 3 [] := ((Arr.new w1 3 []).alloc _).alloc _
  have a1 : Arr (rnewW w1) (w1.heap.size + 1) 34 [.slice (some ⟨w1.heap.size, 0, none⟩) 0 0] := by
    have := (Arr.new (w1.alloc (.cells #[] 3)) 34 [.slice (some ⟨w1.heap.size, 0, none⟩) 0 0]).alloc (.cells #[.slice (some ⟨w1.heap.size + 1, 0, none⟩) 1 1] 95)
    rwa [World.size_alloc] at this
  have a2 : Arr (rnewW w1) (w1.heap.size + 2) 95 [.slice (some ⟨w1.heap.size + 1, 0, none⟩) 1 1] := by
    have := Arr.new ((w1.alloc (.cells #[] 3)).alloc (.cells #[.slice (some ⟨w1.heap.size, 0, none⟩) 0 0] 34)) 95 [.slice (some ⟨w1.heap.size + 1, 0, none⟩) 1 1]
    rwa [World.size_alloc, World.size_alloc] at this
  refine ⟨fun k => if k = w1.heap.size then 5 else if k = w1.heap.size + 1 then 3 else if k = w1.heap.size + 2 then 2 else 1, (ht.below hb).bel, fun _ => ⟨_, fun k hk => ?_, ht.below hb⟩, fun _ => ⟨a2, ?_, by omega⟩, fun _ => ⟨a1.own (by omega) (by simp [maxLen]), fun k hk => ?_⟩, fun _ j v hj => ?_⟩
  · have := own k hk
    dsimp only
    rw [if_neg (by omega), if_neg (by omega), if_neg (by omega)]
  · rw [if_neg (by omega), if_neg (by omega), if_pos rfl]
  · have : k = w1.heap.size + 1 := by injection hk with e; exact e.symm
    dsimp only
    rw [if_neg (by omega), if_pos this]
  · match j with
    | 0 =>
      have : v = .slice (some ⟨w1.heap.size, 0, none⟩) 0 0 := by simpa using hj.symm
      subst this
      exact ⟨⟨a0.own (by omega) (by simp [maxLen]), fun k hk => by
        have : k = w1.heap.size := by injection hk with e; exact e.symm
        dsimp only
        rw [if_pos this]⟩, _, _, rfl⟩
    | j + 1 => simp at hj
end Go.Proofs.Ytfkkkndigkchcaa
