/-
  No cell of these rows narrows 'for every input' (looked for: loops, veiled, ifaces, maps, wideKeys, modest, calm, conditions, laid).
  DERIVED. THE GIVEN ROWS OF THIS SEAT. 5 by the template 'for every input the law returns true; each argument reads behind the call as it read before'; 0 by the template 'total and deterministic' (their statements: YthbbmkkkjbocaaaTotals.lean).
  GIVEN WITH THE SEED: the statements are not yours to turn. If you find one false, say at which input.
  Laid BY PROGRAM, IN A SANDBOX (cutbox-rows.mjs): the forced cells as the released guide's own fill.sh prints them over the translation f5c592c9c103a5f6… (all of the seat's roots in one cut). By AI agents, Wed Nov 11 2026. No macro, syntax, notation, axiom, sorry.
-/
import Derived.Test.YthbbmkkkjbocaaaChecked
import GoSem.Claim
import GoSem.ClaimJoined
import GoSem.ClaimMapViews
import Derived.JoinedTies
import Derived.KernelRfl
namespace Go.Proofs.Ythbbmkkkjbocaaa
/- THE CELL 'sum', in the pinned program and in every row, IS THE sha256 OF THE DUMP (.gsa) THAT YthbbmkkkjbocaaaProg.lean LOADS. Nothing in Lean hashes anything: it is a label: what it is worth is what the hold of that sum in a sandbox is worth. -/
noncomputable def Try.pinned : Pinned := { name := "ythbbmkkkjbocaaa", sum := "f5c592c9c103a5f6f108560d698b383989eac812b4b442ef677662a8d9098a5c", checked := Try.checked }
namespace Rows
def none {H : Type} : Left H := { results := [], args := [] }

/-- 'trefoillaw10.ManaPays': WHATEVER THE INPUT: true; the input reads as it did. -/
def manaPaysSpec : ChangeSpec := { name := "manaPays", fn := fun _ => fun
  | [d1, d2] => { results := [.lit (.bool true)], args := [d1, d2] }
  | _ => none }
def manaPaysRow : OpenClaim := { program := "ythbbmkkkjbocaaa", sum := "f5c592c9c103a5f6f108560d698b383989eac812b4b442ef677662a8d9098a5c", func := "trefoil/trefoillaw10.ManaPays", spec := "manaPays", unfollowed := true, recurses := true, apart := false }
def ManaPaysSaid : Prop := manaPaysRow.holds Try.pinned (OpenSpec.ofChange manaPaysSpec)

/-- ITS FALSE NEIGHBOUR: 'it returns false'. Refute it at one input. -/
def manaPaysWrong : ChangeSpec := { name := "manaPays", fn := fun _ => fun
  | [d1, d2] => { results := [.lit (.bool false)], args := [d1, d2] }
  | _ => none }
def ManaPaysWrongFalsely : Prop := manaPaysRow.holds Try.pinned (OpenSpec.ofChange manaPaysWrong)

/-- 'trefoillaw10.ManaAdds': WHATEVER THE INPUT: true; the input reads as it did. -/
def manaAddsSpec : ChangeSpec := { name := "manaAdds", fn := fun _ => fun
  | [d1, d2, d3] => { results := [.lit (.bool true)], args := [d1, d2, d3] }
  | _ => none }
def manaAddsRow : OpenClaim := { program := "ythbbmkkkjbocaaa", sum := "f5c592c9c103a5f6f108560d698b383989eac812b4b442ef677662a8d9098a5c", func := "trefoil/trefoillaw10.ManaAdds", spec := "manaAdds", unfollowed := true, recurses := true, apart := false }
def ManaAddsSaid : Prop := manaAddsRow.holds Try.pinned (OpenSpec.ofChange manaAddsSpec)

/-- ITS FALSE NEIGHBOUR: 'it returns false'. Refute it at one input. -/
def manaAddsWrong : ChangeSpec := { name := "manaAdds", fn := fun _ => fun
  | [d1, d2, d3] => { results := [.lit (.bool false)], args := [d1, d2, d3] }
  | _ => none }
def ManaAddsWrongFalsely : Prop := manaAddsRow.holds Try.pinned (OpenSpec.ofChange manaAddsWrong)

/-- 'trefoillaw10.ManaWays': WHATEVER THE INPUT: true; the input reads as it did. -/
def manaWaysSpec : ChangeSpec := { name := "manaWays", fn := fun _ => fun
  | [d1, d2] => { results := [.lit (.bool true)], args := [d1, d2] }
  | _ => none }
def manaWaysRow : OpenClaim := { program := "ythbbmkkkjbocaaa", sum := "f5c592c9c103a5f6f108560d698b383989eac812b4b442ef677662a8d9098a5c", func := "trefoil/trefoillaw10.ManaWays", spec := "manaWays", unfollowed := true, recurses := true, apart := false }
def ManaWaysSaid : Prop := manaWaysRow.holds Try.pinned (OpenSpec.ofChange manaWaysSpec)

/-- ITS FALSE NEIGHBOUR: 'it returns false'. Refute it at one input. -/
def manaWaysWrong : ChangeSpec := { name := "manaWays", fn := fun _ => fun
  | [d1, d2] => { results := [.lit (.bool false)], args := [d1, d2] }
  | _ => none }
def ManaWaysWrongFalsely : Prop := manaWaysRow.holds Try.pinned (OpenSpec.ofChange manaWaysWrong)

/-- 'trefoillaw10.ManaMore': WHATEVER THE INPUT: true; the input reads as it did. -/
def manaMoreSpec : ChangeSpec := { name := "manaMore", fn := fun _ => fun
  | [d1, d2, d3] => { results := [.lit (.bool true)], args := [d1, d2, d3] }
  | _ => none }
def manaMoreRow : OpenClaim := { program := "ythbbmkkkjbocaaa", sum := "f5c592c9c103a5f6f108560d698b383989eac812b4b442ef677662a8d9098a5c", func := "trefoil/trefoillaw10.ManaMore", spec := "manaMore", unfollowed := true, recurses := true, apart := false }
def ManaMoreSaid : Prop := manaMoreRow.holds Try.pinned (OpenSpec.ofChange manaMoreSpec)

/-- ITS FALSE NEIGHBOUR: 'it returns false'. Refute it at one input. -/
def manaMoreWrong : ChangeSpec := { name := "manaMore", fn := fun _ => fun
  | [d1, d2, d3] => { results := [.lit (.bool false)], args := [d1, d2, d3] }
  | _ => none }
def ManaMoreWrongFalsely : Prop := manaMoreRow.holds Try.pinned (OpenSpec.ofChange manaMoreWrong)

/-- 'trefoillaw10.ManaKnown': WHATEVER THE INPUT: true; the input reads as it did. -/
def manaKnownSpec : ChangeSpec := { name := "manaKnown", fn := fun _ => fun
  | [] => { results := [.lit (.bool true)], args := [] }
  | _ => none }
def manaKnownRow : OpenClaim := { program := "ythbbmkkkjbocaaa", sum := "f5c592c9c103a5f6f108560d698b383989eac812b4b442ef677662a8d9098a5c", func := "trefoil/trefoillaw10.ManaKnown", spec := "manaKnown", unfollowed := true, recurses := true, apart := false }
def ManaKnownSaid : Prop := manaKnownRow.holds Try.pinned (OpenSpec.ofChange manaKnownSpec)

/-- ITS FALSE NEIGHBOUR: 'it returns false'. Refute it at one input. -/
def manaKnownWrong : ChangeSpec := { name := "manaKnown", fn := fun _ => fun
  | [] => { results := [.lit (.bool false)], args := [] }
  | _ => none }
def ManaKnownWrongFalsely : Prop := manaKnownRow.holds Try.pinned (OpenSpec.ofChange manaKnownWrong)

/- THE SECOND FORM. 'bulk': how many values and letters a reading holds, each counted each time it is reached (what is shared counts as often as it is met; a slice's spare places count too). A statement '..UptoSaid' is the law's where the arguments, and the package variables that the reading takes, are together of bulk at most 1048576: NARROWER than '..Said'. Prove '..Said' where nothing that the law and all that it calls make is longer than what came in: it says more and counts as full. Else prove '..UptoSaid'. A law counts once. -/
mutual
def uptoBulk {H : Type} : DataW H → Nat
  | .lit (.string bytes) => bytes.length + 1
  | .lit _ => 1
  | .nil => 1
  | .ptr d => uptoBulk d + 1
  | .slice elems spare => uptoBulkAll elems + uptoBulkAll spare + 1
  | .agg parts => uptoBulkAll parts + 1
  | .iface _ d => uptoBulk d + 1
  | .map entries => uptoBulkEntries entries + 1
  | .held _ => 1
def uptoBulkAll {H : Type} : List (DataW H) → Nat
  | [] => 0
  | d :: r => uptoBulk d + uptoBulkAll r
def uptoBulkEntries {H : Type} : List (Lit × DataW H) → Nat
  | [] => 0
  | x :: r => uptoBulkEntry x + uptoBulkEntries r
def uptoBulkEntry {H : Type} : Lit × DataW H → Nat
  | (.string bytes, d) => bytes.length + uptoBulk d + 1
  | (_, d) => uptoBulk d + 1
 end
def uptoSmall : (H : Type) → List (DataW H) → Bool := fun _ ds => decide (uptoBulkAll ds ≤ 1048576)
def OpenSpec.upto (s : _root_.Go.ChangeSpec) : _root_.Go.OpenSpec := { _root_.Go.OpenSpec.ofChange s with cond := some uptoSmall }

/-- 'trefoillaw10.ManaPays', WHERE WHAT IT READS IS OF BULK AT MOST 1048576: true; the input reads as it did. -/
def manaPaysUptoRow : OpenClaim := { program := "ythbbmkkkjbocaaa", sum := "f5c592c9c103a5f6f108560d698b383989eac812b4b442ef677662a8d9098a5c", func := "trefoil/trefoillaw10.ManaPays", spec := "manaPays", unfollowed := true, recurses := true, apart := false, narrowed := true }
def ManaPaysUptoSaid : Prop := manaPaysUptoRow.holds Try.pinned (OpenSpec.upto manaPaysSpec)

/-- 'trefoillaw10.ManaAdds', WHERE WHAT IT READS IS OF BULK AT MOST 1048576: true; the input reads as it did. -/
def manaAddsUptoRow : OpenClaim := { program := "ythbbmkkkjbocaaa", sum := "f5c592c9c103a5f6f108560d698b383989eac812b4b442ef677662a8d9098a5c", func := "trefoil/trefoillaw10.ManaAdds", spec := "manaAdds", unfollowed := true, recurses := true, apart := false, narrowed := true }
def ManaAddsUptoSaid : Prop := manaAddsUptoRow.holds Try.pinned (OpenSpec.upto manaAddsSpec)

/-- 'trefoillaw10.ManaWays', WHERE WHAT IT READS IS OF BULK AT MOST 1048576: true; the input reads as it did. -/
def manaWaysUptoRow : OpenClaim := { program := "ythbbmkkkjbocaaa", sum := "f5c592c9c103a5f6f108560d698b383989eac812b4b442ef677662a8d9098a5c", func := "trefoil/trefoillaw10.ManaWays", spec := "manaWays", unfollowed := true, recurses := true, apart := false, narrowed := true }
def ManaWaysUptoSaid : Prop := manaWaysUptoRow.holds Try.pinned (OpenSpec.upto manaWaysSpec)

/-- 'trefoillaw10.ManaMore', WHERE WHAT IT READS IS OF BULK AT MOST 1048576: true; the input reads as it did. -/
def manaMoreUptoRow : OpenClaim := { program := "ythbbmkkkjbocaaa", sum := "f5c592c9c103a5f6f108560d698b383989eac812b4b442ef677662a8d9098a5c", func := "trefoil/trefoillaw10.ManaMore", spec := "manaMore", unfollowed := true, recurses := true, apart := false, narrowed := true }
def ManaMoreUptoSaid : Prop := manaMoreUptoRow.holds Try.pinned (OpenSpec.upto manaMoreSpec)

/-- 'trefoillaw10.ManaKnown', WHERE WHAT IT READS IS OF BULK AT MOST 1048576: true; the input reads as it did. -/
def manaKnownUptoRow : OpenClaim := { program := "ythbbmkkkjbocaaa", sum := "f5c592c9c103a5f6f108560d698b383989eac812b4b442ef677662a8d9098a5c", func := "trefoil/trefoillaw10.ManaKnown", spec := "manaKnown", unfollowed := true, recurses := true, apart := false, narrowed := true }
def ManaKnownUptoSaid : Prop := manaKnownUptoRow.holds Try.pinned (OpenSpec.upto manaKnownSpec)

end Rows
end Go.Proofs.Ythbbmkkkjbocaaa
