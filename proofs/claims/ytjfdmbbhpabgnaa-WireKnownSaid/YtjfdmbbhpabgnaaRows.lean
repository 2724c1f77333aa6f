/-
  No cell of these rows narrows 'for every input' (looked for: loops, veiled, ifaces, maps, wideKeys, modest, calm, conditions, laid).
  DERIVED. THE GIVEN ROWS OF THIS SEAT. 6 by the template 'for every input the law returns true; each argument reads behind the call as it read before'; 0 by the template 'total and deterministic' (their statements: YtjfdmbbhpabgnaaTotals.lean).
  GIVEN WITH THE SEED: the statements are not yours to turn. If you find one false, say at which input.
  Laid BY PROGRAM, IN A SANDBOX (cutbox-rows.mjs): the forced cells as the released guide's own fill.sh prints them over the translation a35cbf49110358bb… (all of the seat's roots in one cut). By AI agents, Wed Nov 11 2026. No macro, syntax, notation, axiom, sorry.
-/
import Derived.Test.YtjfdmbbhpabgnaaChecked
import GoSem.Claim
import GoSem.ClaimJoined
import GoSem.ClaimMapViews
import Derived.JoinedTies
import Derived.KernelRfl
namespace Go.Proofs.Ytjfdmbbhpabgnaa
/- THE CELL 'sum', in the pinned program and in every row, IS THE sha256 OF THE DUMP (.gsa) THAT YtjfdmbbhpabgnaaProg.lean LOADS. Nothing in Lean hashes anything: it is a label: what it is worth is what the hold of that sum in a sandbox is worth. -/
noncomputable def Try.pinned : Pinned := { name := "ytjfdmbbhpabgnaa", sum := "a35cbf49110358bbd6e18747fd8bf461fe404c9193383f633f1e5ab4d15c15e3", checked := Try.checked }
namespace Rows
def none {H : Type} : Left H := { results := [], args := [] }

/-- 'trefoillaw01.WireSorts': WHATEVER THE INPUT: true; the input reads as it did. -/
def wireSortsSpec : ChangeSpec := { name := "wireSorts", fn := fun _ => fun
  | [d1, d2, d3] => { results := [.lit (.bool true)], args := [d1, d2, d3] }
  | _ => none }
def wireSortsRow : OpenClaim := { program := "ytjfdmbbhpabgnaa", sum := "a35cbf49110358bbd6e18747fd8bf461fe404c9193383f633f1e5ab4d15c15e3", func := "trefoil/trefoillaw01.WireSorts", spec := "wireSorts", unfollowed := true, recurses := true, apart := false }
def WireSortsSaid : Prop := wireSortsRow.holds Try.pinned (OpenSpec.ofChange wireSortsSpec)

/-- ITS FALSE NEIGHBOUR: 'it returns false'. Refute it at one input. -/
def wireSortsWrong : ChangeSpec := { name := "wireSorts", fn := fun _ => fun
  | [d1, d2, d3] => { results := [.lit (.bool false)], args := [d1, d2, d3] }
  | _ => none }
def WireSortsWrongFalsely : Prop := wireSortsRow.holds Try.pinned (OpenSpec.ofChange wireSortsWrong)

/-- 'trefoillaw01.WireStops': WHATEVER THE INPUT: true; the input reads as it did. -/
def wireStopsSpec : ChangeSpec := { name := "wireStops", fn := fun _ => fun
  | [d1, d2] => { results := [.lit (.bool true)], args := [d1, d2] }
  | _ => none }
def wireStopsRow : OpenClaim := { program := "ytjfdmbbhpabgnaa", sum := "a35cbf49110358bbd6e18747fd8bf461fe404c9193383f633f1e5ab4d15c15e3", func := "trefoil/trefoillaw01.WireStops", spec := "wireStops", unfollowed := true, recurses := true, apart := false }
def WireStopsSaid : Prop := wireStopsRow.holds Try.pinned (OpenSpec.ofChange wireStopsSpec)

/-- ITS FALSE NEIGHBOUR: 'it returns false'. Refute it at one input. -/
def wireStopsWrong : ChangeSpec := { name := "wireStops", fn := fun _ => fun
  | [d1, d2] => { results := [.lit (.bool false)], args := [d1, d2] }
  | _ => none }
def WireStopsWrongFalsely : Prop := wireStopsRow.holds Try.pinned (OpenSpec.ofChange wireStopsWrong)

/-- 'trefoillaw01.WireSkips': WHATEVER THE INPUT: true; the input reads as it did. -/
def wireSkipsSpec : ChangeSpec := { name := "wireSkips", fn := fun _ => fun
  | [d1, d2] => { results := [.lit (.bool true)], args := [d1, d2] }
  | _ => none }
def wireSkipsRow : OpenClaim := { program := "ytjfdmbbhpabgnaa", sum := "a35cbf49110358bbd6e18747fd8bf461fe404c9193383f633f1e5ab4d15c15e3", func := "trefoil/trefoillaw01.WireSkips", spec := "wireSkips", unfollowed := true, recurses := true, apart := false }
def WireSkipsSaid : Prop := wireSkipsRow.holds Try.pinned (OpenSpec.ofChange wireSkipsSpec)

/-- ITS FALSE NEIGHBOUR: 'it returns false'. Refute it at one input. -/
def wireSkipsWrong : ChangeSpec := { name := "wireSkips", fn := fun _ => fun
  | [d1, d2] => { results := [.lit (.bool false)], args := [d1, d2] }
  | _ => none }
def WireSkipsWrongFalsely : Prop := wireSkipsRow.holds Try.pinned (OpenSpec.ofChange wireSkipsWrong)

/-- 'trefoillaw01.WireSign': WHATEVER THE INPUT: true; the input reads as it did. -/
def wireSignSpec : ChangeSpec := { name := "wireSign", fn := fun _ => fun
  | [d1, d2] => { results := [.lit (.bool true)], args := [d1, d2] }
  | _ => none }
def wireSignRow : OpenClaim := { program := "ytjfdmbbhpabgnaa", sum := "a35cbf49110358bbd6e18747fd8bf461fe404c9193383f633f1e5ab4d15c15e3", func := "trefoil/trefoillaw01.WireSign", spec := "wireSign", unfollowed := true, recurses := true, apart := false }
def WireSignSaid : Prop := wireSignRow.holds Try.pinned (OpenSpec.ofChange wireSignSpec)

/-- ITS FALSE NEIGHBOUR: 'it returns false'. Refute it at one input. -/
def wireSignWrong : ChangeSpec := { name := "wireSign", fn := fun _ => fun
  | [d1, d2] => { results := [.lit (.bool false)], args := [d1, d2] }
  | _ => none }
def WireSignWrongFalsely : Prop := wireSignRow.holds Try.pinned (OpenSpec.ofChange wireSignWrong)

/-- 'trefoillaw01.WireLeast': WHATEVER THE INPUT: true; the input reads as it did. -/
def wireLeastSpec : ChangeSpec := { name := "wireLeast", fn := fun _ => fun
  | [d1, d2] => { results := [.lit (.bool true)], args := [d1, d2] }
  | _ => none }
def wireLeastRow : OpenClaim := { program := "ytjfdmbbhpabgnaa", sum := "a35cbf49110358bbd6e18747fd8bf461fe404c9193383f633f1e5ab4d15c15e3", func := "trefoil/trefoillaw01.WireLeast", spec := "wireLeast", unfollowed := true, recurses := true, apart := false }
def WireLeastSaid : Prop := wireLeastRow.holds Try.pinned (OpenSpec.ofChange wireLeastSpec)

/-- ITS FALSE NEIGHBOUR: 'it returns false'. Refute it at one input. -/
def wireLeastWrong : ChangeSpec := { name := "wireLeast", fn := fun _ => fun
  | [d1, d2] => { results := [.lit (.bool false)], args := [d1, d2] }
  | _ => none }
def WireLeastWrongFalsely : Prop := wireLeastRow.holds Try.pinned (OpenSpec.ofChange wireLeastWrong)

/-- 'trefoillaw01.WireKnown': WHATEVER THE INPUT: true; the input reads as it did. -/
def wireKnownSpec : ChangeSpec := { name := "wireKnown", fn := fun _ => fun
  | [] => { results := [.lit (.bool true)], args := [] }
  | _ => none }
def wireKnownRow : OpenClaim := { program := "ytjfdmbbhpabgnaa", sum := "a35cbf49110358bbd6e18747fd8bf461fe404c9193383f633f1e5ab4d15c15e3", func := "trefoil/trefoillaw01.WireKnown", spec := "wireKnown", unfollowed := true, recurses := true, apart := false }
def WireKnownSaid : Prop := wireKnownRow.holds Try.pinned (OpenSpec.ofChange wireKnownSpec)

/-- ITS FALSE NEIGHBOUR: 'it returns false'. Refute it at one input. -/
def wireKnownWrong : ChangeSpec := { name := "wireKnown", fn := fun _ => fun
  | [] => { results := [.lit (.bool false)], args := [] }
  | _ => none }
def WireKnownWrongFalsely : Prop := wireKnownRow.holds Try.pinned (OpenSpec.ofChange wireKnownWrong)

/- THE SECOND FORM. 'bulk': how many values and letters a reading holds, each counted each time it is reached (what is shared counts as often as it is met; a slice's spare places count too). A statement '..UptoSaid' is the law's where the arguments, and the package variables that the reading takes, are together of bulk at most 1048576: NARROWER than '..Said'. Prove '..Said' where nothing that the law and all that it calls make is longer than what came in: it says more and counts as full. Else prove '..UptoSaid'. A law counts once. -/
mutual
def uptoBulk {H : Type} : DataW H → Nat
  | .lit (.string bytes) => bytes.length + 1
  | .lit _ => 1
  | .nil => 1
  | .ptr d => uptoBulk d + 1
  | .slice elems spare => uptoBulkAll elems + uptoBulkAll spare + 1
  | .agg parts => uptoBulkAll parts + 1
  | .iface _ d => uptoBulk d + 1
  | .map entries => uptoBulkEntries entries + 1
  | .held _ => 1
def uptoBulkAll {H : Type} : List (DataW H) → Nat
  | [] => 0
  | d :: r => uptoBulk d + uptoBulkAll r
def uptoBulkEntries {H : Type} : List (Lit × DataW H) → Nat
  | [] => 0
  | x :: r => uptoBulkEntry x + uptoBulkEntries r
def uptoBulkEntry {H : Type} : Lit × DataW H → Nat
  | (.string bytes, d) => bytes.length + uptoBulk d + 1
  | (_, d) => uptoBulk d + 1
 end
def uptoSmall : (H : Type) → List (DataW H) → Bool := fun _ ds => decide (uptoBulkAll ds ≤ 1048576)
def OpenSpec.upto (s : _root_.Go.ChangeSpec) : _root_.Go.OpenSpec := { _root_.Go.OpenSpec.ofChange s with cond := some uptoSmall }

/-- 'trefoillaw01.WireSorts', WHERE WHAT IT READS IS OF BULK AT MOST 1048576: true; the input reads as it did. -/
def wireSortsUptoRow : OpenClaim := { program := "ytjfdmbbhpabgnaa", sum := "a35cbf49110358bbd6e18747fd8bf461fe404c9193383f633f1e5ab4d15c15e3", func := "trefoil/trefoillaw01.WireSorts", spec := "wireSorts", unfollowed := true, recurses := true, apart := false, narrowed := true }
def WireSortsUptoSaid : Prop := wireSortsUptoRow.holds Try.pinned (OpenSpec.upto wireSortsSpec)

/-- 'trefoillaw01.WireStops', WHERE WHAT IT READS IS OF BULK AT MOST 1048576: true; the input reads as it did. -/
def wireStopsUptoRow : OpenClaim := { program := "ytjfdmbbhpabgnaa", sum := "a35cbf49110358bbd6e18747fd8bf461fe404c9193383f633f1e5ab4d15c15e3", func := "trefoil/trefoillaw01.WireStops", spec := "wireStops", unfollowed := true, recurses := true, apart := false, narrowed := true }
def WireStopsUptoSaid : Prop := wireStopsUptoRow.holds Try.pinned (OpenSpec.upto wireStopsSpec)

/-- 'trefoillaw01.WireSkips', WHERE WHAT IT READS IS OF BULK AT MOST 1048576: true; the input reads as it did. -/
def wireSkipsUptoRow : OpenClaim := { program := "ytjfdmbbhpabgnaa", sum := "a35cbf49110358bbd6e18747fd8bf461fe404c9193383f633f1e5ab4d15c15e3", func := "trefoil/trefoillaw01.WireSkips", spec := "wireSkips", unfollowed := true, recurses := true, apart := false, narrowed := true }
def WireSkipsUptoSaid : Prop := wireSkipsUptoRow.holds Try.pinned (OpenSpec.upto wireSkipsSpec)

/-- 'trefoillaw01.WireSign', WHERE WHAT IT READS IS OF BULK AT MOST 1048576: true; the input reads as it did. -/
def wireSignUptoRow : OpenClaim := { program := "ytjfdmbbhpabgnaa", sum := "a35cbf49110358bbd6e18747fd8bf461fe404c9193383f633f1e5ab4d15c15e3", func := "trefoil/trefoillaw01.WireSign", spec := "wireSign", unfollowed := true, recurses := true, apart := false, narrowed := true }
def WireSignUptoSaid : Prop := wireSignUptoRow.holds Try.pinned (OpenSpec.upto wireSignSpec)

/-- 'trefoillaw01.WireLeast', WHERE WHAT IT READS IS OF BULK AT MOST 1048576: true; the input reads as it did. -/
def wireLeastUptoRow : OpenClaim := { program := "ytjfdmbbhpabgnaa", sum := "a35cbf49110358bbd6e18747fd8bf461fe404c9193383f633f1e5ab4d15c15e3", func := "trefoil/trefoillaw01.WireLeast", spec := "wireLeast", unfollowed := true, recurses := true, apart := false, narrowed := true }
def WireLeastUptoSaid : Prop := wireLeastUptoRow.holds Try.pinned (OpenSpec.upto wireLeastSpec)

/-- 'trefoillaw01.WireKnown', WHERE WHAT IT READS IS OF BULK AT MOST 1048576: true; the input reads as it did. -/
def wireKnownUptoRow : OpenClaim := { program := "ytjfdmbbhpabgnaa", sum := "a35cbf49110358bbd6e18747fd8bf461fe404c9193383f633f1e5ab4d15c15e3", func := "trefoil/trefoillaw01.WireKnown", spec := "wireKnown", unfollowed := true, recurses := true, apart := false, narrowed := true }
def WireKnownUptoSaid : Prop := wireKnownUptoRow.holds Try.pinned (OpenSpec.upto wireKnownSpec)

end Rows
end Go.Proofs.Ytjfdmbbhpabgnaa
