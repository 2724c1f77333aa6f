/- How an arena lies in memory; the walks of its readers. No condition. -/
import Derived.Test.YtfkkkndigkchcaaTrailTr
import Derived.Test.YtfkkkndigkchcaaReg
namespace Go.Proofs.Ytfkkkndigkchcaa
open Go.RowKit
attribute [local irreducible] Calls

/-- An arena's blocks: itself, the cell with its base, the cell with its address. -/
structure ArF (w : World) (A Bb Ba T : Nat) (base cap : Nat) : Prop where
  a : Arr w A 111 [.pointer (some ⟨T, 0, none⟩), .func (.func 81) #[] #[.pointer (some ⟨Bb, 0, none⟩)], .func (.func 82) #[] #[.pointer (some ⟨Ba, 0, none⟩)], .int .i64 (base : Int), .int .i64 ((base : Int) + 1), .int .i64 (cap : Int)]
  b : Arr w Bb 3 [.int .i64 (base : Int)]
  c : Arr w Ba 56 [.pointer (some ⟨A, 0, none⟩)]
section
variable {w : World} {A Bb Ba T base cap : Nat}
theorem ArF.below {w' : World} (h : ArF w A Bb Ba T base cap) (hb : Below w.heap.size w w') : ArF w' A Bb Ba T base cap := ⟨h.a.below hb h.a.lt, h.b.below hb h.b.lt, h.c.below hb h.c.lt⟩
theorem ArF.moved {w' : World} {S : Nat → Prop} (h : ArF w A Bb Ba T base cap) (hm : Moved w w' S) (hA : ¬ S A) (hB : ¬ S Bb) (hC : ¬ S Ba) : ArF w' A Bb Ba T base cap :=
  ⟨(hm.block A h.a.lt hA).trans h.a, (hm.block Bb h.b.lt hB).trans h.b, (hm.block Ba h.c.lt hC).trans h.c⟩
theorem none_nil (w : World) : Calls Try.prog 83 #[.pointer none] w fun e w' => e = .returned (.bool true) ∧ w = w' := by
  go_enter Try.func83, Try.ntmps83
  go_wp2
  go_ret
  exact ⟨rfl, rfl⟩
theorem none_any (h : ArF w A Bb Ba T base cap) : Calls Try.prog 83 #[.pointer (some ⟨A, 0, none⟩)] w fun e w' => e = .returned (.bool false) ∧ w = w' := by
  have c0 : w.cell? ⟨A, 0, none⟩ = some (.pointer (some ⟨T, 0, none⟩)) := h.a.cell 0
  clear h
  go_enter Try.func83, Try.ntmps83
  go_wp2
  go_ret
  exact ⟨rfl, rfl⟩
theorem gens_any (h : ArF w A Bb Ba T base cap) (s : Int) (hb : base ≤ 1048576) (h0 : -1000 ≤ s) (h1 : s ≤ 1000) : Calls Try.prog 81 #[.int .i64 s, .pointer (some ⟨Bb, 0, none⟩)] w fun e w' => e = .returned (.int .i64 ((base : Int) + 2 + 2 * s)) ∧ w = w' := by
  have c0 : w.cell? ⟨Bb, 0, none⟩ = some (.int .i64 (base : Int)) := h.b.cell 0
  clear h
  go_enter Try.func81, Try.ntmps81
  go_wp2
  go_ret
  exact ⟨rfl, rfl⟩
theorem rows_any (h : ArF w A Bb Ba T base cap) (s : Int) (hb : base ≤ 1048576) (h0 : -1000 ≤ s) (h1 : s ≤ 1000) : Calls Try.prog 82 #[.int .i64 s, .pointer (some ⟨Ba, 0, none⟩)] w fun e w' => e = .returned (.int .i64 ((base : Int) + 2 + 2 * s + 1)) ∧ w = w' := by
  have c0 : w.cell? ⟨Ba, 0, none⟩ = some (.pointer (some ⟨A, 0, none⟩)) := h.c.cell 0
  have c1 : w.cell? ⟨A, 1, none⟩ = some (.func (.func 81) #[] #[.pointer (some ⟨Bb, 0, none⟩)]) := h.a.cell 1
  have hg := Lib.hid (gens_any h s hb h0 h1)
  clear h
  go_enter Try.func82, Try.ntmps82
  go_wp2_with (go_at_call 81; refine hg.out.mono ?_; rintro e w' ⟨rfl, rfl⟩)
  go_ret
  exact ⟨rfl, rfl⟩
end
end Go.Proofs.Ytfkkkndigkchcaa
