/-
  No cell of these rows narrows 'for every input' (looked for: loops, veiled, ifaces, maps, wideKeys, modest, calm, conditions, laid).
  DERIVED. THE GIVEN ROWS OF THIS SEAT. 5 by the template 'for every input the law returns true; each argument reads behind the call as it read before'; 0 by the template 'total and deterministic' (their statements: YtcehclagipdleaaTotals.lean).
  GIVEN WITH THE SEED: the statements are not yours to turn. If you find one false, say at which input.
  Laid BY PROGRAM, IN A SANDBOX (cutbox-rows.mjs): the forced cells as the released guide's own fill.sh prints them over the translation d61ba33c8ba1b163… (all of the seat's roots in one cut). By AI agents, Wed Nov 11 2026. No macro, syntax, notation, axiom, sorry.
-/
import Derived.Test.YtcehclagipdleaaChecked
import GoSem.Claim
import GoSem.ClaimJoined
import GoSem.ClaimMapViews
import Derived.JoinedTies
import Derived.KernelRfl
namespace Go.Proofs.Ytcehclagipdleaa
/- THE CELL 'sum', in the pinned program and in every row, IS THE sha256 OF THE DUMP (.gsa) THAT YtcehclagipdleaaProg.lean LOADS. Nothing in Lean hashes anything: it is a label: what it is worth is what the hold of that sum in a sandbox is worth. -/
noncomputable def Try.pinned : Pinned := { name := "ytcehclagipdleaa", sum := "d61ba33c8ba1b16353a001d21280c55be3bff9026316d271e43ff5b04077fe2a", checked := Try.checked }
namespace Rows
def none {H : Type} : Left H := { results := [], args := [] }

/-- 'trefoillaw03.DealPerms': WHATEVER THE INPUT: true; the input reads as it did. -/
def dealPermsSpec : ChangeSpec := { name := "dealPerms", fn := fun _ => fun
  | [d1, d2] => { results := [.lit (.bool true)], args := [d1, d2] }
  | _ => none }
def dealPermsRow : OpenClaim := { program := "ytcehclagipdleaa", sum := "d61ba33c8ba1b16353a001d21280c55be3bff9026316d271e43ff5b04077fe2a", func := "trefoil/trefoillaw03.DealPerms", spec := "dealPerms", unfollowed := true, recurses := true, apart := false }
def DealPermsSaid : Prop := dealPermsRow.holds Try.pinned (OpenSpec.ofChange dealPermsSpec)

/-- ITS FALSE NEIGHBOUR: 'it returns false'. Refute it at one input. -/
def dealPermsWrong : ChangeSpec := { name := "dealPerms", fn := fun _ => fun
  | [d1, d2] => { results := [.lit (.bool false)], args := [d1, d2] }
  | _ => none }
def DealPermsWrongFalsely : Prop := dealPermsRow.holds Try.pinned (OpenSpec.ofChange dealPermsWrong)

/-- 'trefoillaw03.DealTurns': WHATEVER THE INPUT: true; the input reads as it did. -/
def dealTurnsSpec : ChangeSpec := { name := "dealTurns", fn := fun _ => fun
  | [d1, d2] => { results := [.lit (.bool true)], args := [d1, d2] }
  | _ => none }
def dealTurnsRow : OpenClaim := { program := "ytcehclagipdleaa", sum := "d61ba33c8ba1b16353a001d21280c55be3bff9026316d271e43ff5b04077fe2a", func := "trefoil/trefoillaw03.DealTurns", spec := "dealTurns", unfollowed := true, recurses := true, apart := false }
def DealTurnsSaid : Prop := dealTurnsRow.holds Try.pinned (OpenSpec.ofChange dealTurnsSpec)

/-- ITS FALSE NEIGHBOUR: 'it returns false'. Refute it at one input. -/
def dealTurnsWrong : ChangeSpec := { name := "dealTurns", fn := fun _ => fun
  | [d1, d2] => { results := [.lit (.bool false)], args := [d1, d2] }
  | _ => none }
def DealTurnsWrongFalsely : Prop := dealTurnsRow.holds Try.pinned (OpenSpec.ofChange dealTurnsWrong)

/-- 'trefoillaw03.DealAll': WHATEVER THE INPUT: true; the input reads as it did. -/
def dealAllSpec : ChangeSpec := { name := "dealAll", fn := fun _ => fun
  | [d1, d2] => { results := [.lit (.bool true)], args := [d1, d2] }
  | _ => none }
def dealAllRow : OpenClaim := { program := "ytcehclagipdleaa", sum := "d61ba33c8ba1b16353a001d21280c55be3bff9026316d271e43ff5b04077fe2a", func := "trefoil/trefoillaw03.DealAll", spec := "dealAll", unfollowed := true, recurses := true, apart := false }
def DealAllSaid : Prop := dealAllRow.holds Try.pinned (OpenSpec.ofChange dealAllSpec)

/-- ITS FALSE NEIGHBOUR: 'it returns false'. Refute it at one input. -/
def dealAllWrong : ChangeSpec := { name := "dealAll", fn := fun _ => fun
  | [d1, d2] => { results := [.lit (.bool false)], args := [d1, d2] }
  | _ => none }
def DealAllWrongFalsely : Prop := dealAllRow.holds Try.pinned (OpenSpec.ofChange dealAllWrong)

/-- 'trefoillaw03.DealTurned': WHATEVER THE INPUT: true; the input reads as it did. -/
def dealTurnedSpec : ChangeSpec := { name := "dealTurned", fn := fun _ => fun
  | [d1, d2] => { results := [.lit (.bool true)], args := [d1, d2] }
  | _ => none }
def dealTurnedRow : OpenClaim := { program := "ytcehclagipdleaa", sum := "d61ba33c8ba1b16353a001d21280c55be3bff9026316d271e43ff5b04077fe2a", func := "trefoil/trefoillaw03.DealTurned", spec := "dealTurned", unfollowed := true, recurses := true, apart := false }
def DealTurnedSaid : Prop := dealTurnedRow.holds Try.pinned (OpenSpec.ofChange dealTurnedSpec)

/-- ITS FALSE NEIGHBOUR: 'it returns false'. Refute it at one input. -/
def dealTurnedWrong : ChangeSpec := { name := "dealTurned", fn := fun _ => fun
  | [d1, d2] => { results := [.lit (.bool false)], args := [d1, d2] }
  | _ => none }
def DealTurnedWrongFalsely : Prop := dealTurnedRow.holds Try.pinned (OpenSpec.ofChange dealTurnedWrong)

/-- 'trefoillaw03.DealKnown': WHATEVER THE INPUT: true; the input reads as it did. -/
def dealKnownSpec : ChangeSpec := { name := "dealKnown", fn := fun _ => fun
  | [] => { results := [.lit (.bool true)], args := [] }
  | _ => none }
def dealKnownRow : OpenClaim := { program := "ytcehclagipdleaa", sum := "d61ba33c8ba1b16353a001d21280c55be3bff9026316d271e43ff5b04077fe2a", func := "trefoil/trefoillaw03.DealKnown", spec := "dealKnown", unfollowed := true, recurses := true, apart := false }
def DealKnownSaid : Prop := dealKnownRow.holds Try.pinned (OpenSpec.ofChange dealKnownSpec)

/-- ITS FALSE NEIGHBOUR: 'it returns false'. Refute it at one input. -/
def dealKnownWrong : ChangeSpec := { name := "dealKnown", fn := fun _ => fun
  | [] => { results := [.lit (.bool false)], args := [] }
  | _ => none }
def DealKnownWrongFalsely : Prop := dealKnownRow.holds Try.pinned (OpenSpec.ofChange dealKnownWrong)

/- THE SECOND FORM. 'bulk': how many values and letters a reading holds, each counted each time it is reached (what is shared counts as often as it is met; a slice's spare places count too). A statement '..UptoSaid' is the law's where the arguments, and the package variables that the reading takes, are together of bulk at most 1048576: NARROWER than '..Said'. Prove '..Said' where nothing that the law and all that it calls make is longer than what came in: it says more and counts as full. Else prove '..UptoSaid'. A law counts once. -/
mutual
def uptoBulk {H : Type} : DataW H → Nat
  | .lit (.string bytes) => bytes.length + 1
  | .lit _ => 1
  | .nil => 1
  | .ptr d => uptoBulk d + 1
  | .slice elems spare => uptoBulkAll elems + uptoBulkAll spare + 1
  | .agg parts => uptoBulkAll parts + 1
  | .iface _ d => uptoBulk d + 1
  | .map entries => uptoBulkEntries entries + 1
  | .held _ => 1
def uptoBulkAll {H : Type} : List (DataW H) → Nat
  | [] => 0
  | d :: r => uptoBulk d + uptoBulkAll r
def uptoBulkEntries {H : Type} : List (Lit × DataW H) → Nat
  | [] => 0
  | x :: r => uptoBulkEntry x + uptoBulkEntries r
def uptoBulkEntry {H : Type} : Lit × DataW H → Nat
  | (.string bytes, d) => bytes.length + uptoBulk d + 1
  | (_, d) => uptoBulk d + 1
 end
def uptoSmall : (H : Type) → List (DataW H) → Bool := fun _ ds => decide (uptoBulkAll ds ≤ 1048576)
def OpenSpec.upto (s : _root_.Go.ChangeSpec) : _root_.Go.OpenSpec := { _root_.Go.OpenSpec.ofChange s with cond := some uptoSmall }

/-- 'trefoillaw03.DealPerms', WHERE WHAT IT READS IS OF BULK AT MOST 1048576: true; the input reads as it did. -/
def dealPermsUptoRow : OpenClaim := { program := "ytcehclagipdleaa", sum := "d61ba33c8ba1b16353a001d21280c55be3bff9026316d271e43ff5b04077fe2a", func := "trefoil/trefoillaw03.DealPerms", spec := "dealPerms", unfollowed := true, recurses := true, apart := false, narrowed := true }
def DealPermsUptoSaid : Prop := dealPermsUptoRow.holds Try.pinned (OpenSpec.upto dealPermsSpec)

/-- 'trefoillaw03.DealTurns', WHERE WHAT IT READS IS OF BULK AT MOST 1048576: true; the input reads as it did. -/
def dealTurnsUptoRow : OpenClaim := { program := "ytcehclagipdleaa", sum := "d61ba33c8ba1b16353a001d21280c55be3bff9026316d271e43ff5b04077fe2a", func := "trefoil/trefoillaw03.DealTurns", spec := "dealTurns", unfollowed := true, recurses := true, apart := false, narrowed := true }
def DealTurnsUptoSaid : Prop := dealTurnsUptoRow.holds Try.pinned (OpenSpec.upto dealTurnsSpec)

/-- 'trefoillaw03.DealAll', WHERE WHAT IT READS IS OF BULK AT MOST 1048576: true; the input reads as it did. -/
def dealAllUptoRow : OpenClaim := { program := "ytcehclagipdleaa", sum := "d61ba33c8ba1b16353a001d21280c55be3bff9026316d271e43ff5b04077fe2a", func := "trefoil/trefoillaw03.DealAll", spec := "dealAll", unfollowed := true, recurses := true, apart := false, narrowed := true }
def DealAllUptoSaid : Prop := dealAllUptoRow.holds Try.pinned (OpenSpec.upto dealAllSpec)

/-- 'trefoillaw03.DealTurned', WHERE WHAT IT READS IS OF BULK AT MOST 1048576: true; the input reads as it did. -/
def dealTurnedUptoRow : OpenClaim := { program := "ytcehclagipdleaa", sum := "d61ba33c8ba1b16353a001d21280c55be3bff9026316d271e43ff5b04077fe2a", func := "trefoil/trefoillaw03.DealTurned", spec := "dealTurned", unfollowed := true, recurses := true, apart := false, narrowed := true }
def DealTurnedUptoSaid : Prop := dealTurnedUptoRow.holds Try.pinned (OpenSpec.upto dealTurnedSpec)

/-- 'trefoillaw03.DealKnown', WHERE WHAT IT READS IS OF BULK AT MOST 1048576: true; the input reads as it did. -/
def dealKnownUptoRow : OpenClaim := { program := "ytcehclagipdleaa", sum := "d61ba33c8ba1b16353a001d21280c55be3bff9026316d271e43ff5b04077fe2a", func := "trefoil/trefoillaw03.DealKnown", spec := "dealKnown", unfollowed := true, recurses := true, apart := false, narrowed := true }
def DealKnownUptoSaid : Prop := dealKnownUptoRow.holds Try.pinned (OpenSpec.upto dealKnownSpec)

end Rows
end Go.Proofs.Ytcehclagipdleaa
