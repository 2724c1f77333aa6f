/-
  No cell of these rows narrows 'for every input' (looked for: loops, veiled, ifaces, maps, wideKeys, modest, calm, conditions, laid).
  DERIVED. THE GIVEN ROWS OF THIS SEAT. 15 by the template 'for every input the law returns true; each argument reads behind the call as it read before'; 0 by the template 'total and deterministic' (their statements: YtfkkkndigkchcaaTotals.lean).
  GIVEN WITH THE SEED: the statements are not yours to turn. If you find one false, say at which input.
  Laid BY PROGRAM, IN A SANDBOX (cutbox-rows.mjs): the forced cells as the released guide's own fill.sh prints them over the translation ecbb5dbefed89769… (all of the seat's roots in one cut). By AI agents, Wed Nov 11 2026. No macro, syntax, notation, axiom, sorry.
-/
import Derived.Test.YtfkkkndigkchcaaChecked
import GoSem.Claim
import GoSem.ClaimJoined
import GoSem.ClaimMapViews
import Derived.JoinedTies
import Derived.KernelRfl
namespace Go.Proofs.Ytfkkkndigkchcaa
/- THE CELL 'sum', in the pinned program and in every row, IS THE sha256 OF THE DUMP (.gsa) THAT YtfkkkndigkchcaaProg.lean LOADS. Nothing in Lean hashes anything: it is a label: what it is worth is what the hold of that sum in a sandbox is worth. -/
noncomputable def Try.pinned : Pinned := { name := "ytfkkkndigkchcaa", sum := "ecbb5dbefed897691127be25adc3a0b12aade9e513fa206aacf7bbfa4dfc960f", checked := Try.checked }
namespace Rows
def none {H : Type} : Left H := { results := [], args := [] }

/-- 'trefoillaw07.TrailPlays': WHATEVER THE INPUT: true; the input reads as it did. -/
def trailPlaysSpec : ChangeSpec := { name := "trailPlays", fn := fun _ => fun
  | [d] => { results := [.lit (.bool true)], args := [d] }
  | _ => none }
def trailPlaysRow : OpenClaim := { program := "ytfkkkndigkchcaa", sum := "ecbb5dbefed897691127be25adc3a0b12aade9e513fa206aacf7bbfa4dfc960f", func := "trefoil/trefoillaw07.TrailPlays", spec := "trailPlays", unfollowed := true, recurses := true, apart := false }
def TrailPlaysSaid : Prop := trailPlaysRow.holds Try.pinned (OpenSpec.ofChange trailPlaysSpec)

/-- ITS FALSE NEIGHBOUR: 'it returns false'. Refute it at one input. -/
def trailPlaysWrong : ChangeSpec := { name := "trailPlays", fn := fun _ => fun
  | [d] => { results := [.lit (.bool false)], args := [d] }
  | _ => none }
def TrailPlaysWrongFalsely : Prop := trailPlaysRow.holds Try.pinned (OpenSpec.ofChange trailPlaysWrong)

/-- 'trefoillaw07.TrailBack': WHATEVER THE INPUT: true; the input reads as it did. -/
def trailBackSpec : ChangeSpec := { name := "trailBack", fn := fun _ => fun
  | [d1, d2] => { results := [.lit (.bool true)], args := [d1, d2] }
  | _ => none }
def trailBackRow : OpenClaim := { program := "ytfkkkndigkchcaa", sum := "ecbb5dbefed897691127be25adc3a0b12aade9e513fa206aacf7bbfa4dfc960f", func := "trefoil/trefoillaw07.TrailBack", spec := "trailBack", unfollowed := true, recurses := true, apart := false }
def TrailBackSaid : Prop := trailBackRow.holds Try.pinned (OpenSpec.ofChange trailBackSpec)

/-- ITS FALSE NEIGHBOUR: 'it returns false'. Refute it at one input. -/
def trailBackWrong : ChangeSpec := { name := "trailBack", fn := fun _ => fun
  | [d1, d2] => { results := [.lit (.bool false)], args := [d1, d2] }
  | _ => none }
def TrailBackWrongFalsely : Prop := trailBackRow.holds Try.pinned (OpenSpec.ofChange trailBackWrong)

/-- 'trefoillaw07.TrailOnce': WHATEVER THE INPUT: true; the input reads as it did. -/
def trailOnceSpec : ChangeSpec := { name := "trailOnce", fn := fun _ => fun
  | [d] => { results := [.lit (.bool true)], args := [d] }
  | _ => none }
def trailOnceRow : OpenClaim := { program := "ytfkkkndigkchcaa", sum := "ecbb5dbefed897691127be25adc3a0b12aade9e513fa206aacf7bbfa4dfc960f", func := "trefoil/trefoillaw07.TrailOnce", spec := "trailOnce", unfollowed := true, recurses := true, apart := false }
def TrailOnceSaid : Prop := trailOnceRow.holds Try.pinned (OpenSpec.ofChange trailOnceSpec)

/-- ITS FALSE NEIGHBOUR: 'it returns false'. Refute it at one input. -/
def trailOnceWrong : ChangeSpec := { name := "trailOnce", fn := fun _ => fun
  | [d] => { results := [.lit (.bool false)], args := [d] }
  | _ => none }
def TrailOnceWrongFalsely : Prop := trailOnceRow.holds Try.pinned (OpenSpec.ofChange trailOnceWrong)

/-- 'trefoillaw07.TrailKnown': WHATEVER THE INPUT: true; the input reads as it did. -/
def trailKnownSpec : ChangeSpec := { name := "trailKnown", fn := fun _ => fun
  | [] => { results := [.lit (.bool true)], args := [] }
  | _ => none }
def trailKnownRow : OpenClaim := { program := "ytfkkkndigkchcaa", sum := "ecbb5dbefed897691127be25adc3a0b12aade9e513fa206aacf7bbfa4dfc960f", func := "trefoil/trefoillaw07.TrailKnown", spec := "trailKnown", unfollowed := true, recurses := true, apart := false }
def TrailKnownSaid : Prop := trailKnownRow.holds Try.pinned (OpenSpec.ofChange trailKnownSpec)

/-- ITS FALSE NEIGHBOUR: 'it returns false'. Refute it at one input. -/
def trailKnownWrong : ChangeSpec := { name := "trailKnown", fn := fun _ => fun
  | [] => { results := [.lit (.bool false)], args := [] }
  | _ => none }
def TrailKnownWrongFalsely : Prop := trailKnownRow.holds Try.pinned (OpenSpec.ofChange trailKnownWrong)

/-- 'trefoillaw07.TrailGrows': WHATEVER THE INPUT: true; the input reads as it did. -/
def trailGrowsSpec : ChangeSpec := { name := "trailGrows", fn := fun _ => fun
  | [d] => { results := [.lit (.bool true)], args := [d] }
  | _ => none }
def trailGrowsRow : OpenClaim := { program := "ytfkkkndigkchcaa", sum := "ecbb5dbefed897691127be25adc3a0b12aade9e513fa206aacf7bbfa4dfc960f", func := "trefoil/trefoillaw07.TrailGrows", spec := "trailGrows", unfollowed := true, recurses := true, apart := false }
def TrailGrowsSaid : Prop := trailGrowsRow.holds Try.pinned (OpenSpec.ofChange trailGrowsSpec)

/-- ITS FALSE NEIGHBOUR: 'it returns false'. Refute it at one input. -/
def trailGrowsWrong : ChangeSpec := { name := "trailGrows", fn := fun _ => fun
  | [d] => { results := [.lit (.bool false)], args := [d] }
  | _ => none }
def TrailGrowsWrongFalsely : Prop := trailGrowsRow.holds Try.pinned (OpenSpec.ofChange trailGrowsWrong)

/-- 'trefoillaw09.ZoneMoves': WHATEVER THE INPUT: true; the input reads as it did. -/
def zoneMovesSpec : ChangeSpec := { name := "zoneMoves", fn := fun _ => fun
  | [d] => { results := [.lit (.bool true)], args := [d] }
  | _ => none }
def zoneMovesRow : OpenClaim := { program := "ytfkkkndigkchcaa", sum := "ecbb5dbefed897691127be25adc3a0b12aade9e513fa206aacf7bbfa4dfc960f", func := "trefoil/trefoillaw09.ZoneMoves", spec := "zoneMoves", unfollowed := true, recurses := true, apart := false }
def ZoneMovesSaid : Prop := zoneMovesRow.holds Try.pinned (OpenSpec.ofChange zoneMovesSpec)

/-- ITS FALSE NEIGHBOUR: 'it returns false'. Refute it at one input. -/
def zoneMovesWrong : ChangeSpec := { name := "zoneMoves", fn := fun _ => fun
  | [d] => { results := [.lit (.bool false)], args := [d] }
  | _ => none }
def ZoneMovesWrongFalsely : Prop := zoneMovesRow.holds Try.pinned (OpenSpec.ofChange zoneMovesWrong)

/-- 'trefoillaw08.ArenaPlays': WHATEVER THE INPUT: true; the input reads as it did. -/
def arenaPlaysSpec : ChangeSpec := { name := "arenaPlays", fn := fun _ => fun
  | [d1, d2] => { results := [.lit (.bool true)], args := [d1, d2] }
  | _ => none }
def arenaPlaysRow : OpenClaim := { program := "ytfkkkndigkchcaa", sum := "ecbb5dbefed897691127be25adc3a0b12aade9e513fa206aacf7bbfa4dfc960f", func := "trefoil/trefoillaw08.ArenaPlays", spec := "arenaPlays", unfollowed := true, recurses := true, apart := false }
def ArenaPlaysSaid : Prop := arenaPlaysRow.holds Try.pinned (OpenSpec.ofChange arenaPlaysSpec)

/-- ITS FALSE NEIGHBOUR: 'it returns false'. Refute it at one input. -/
def arenaPlaysWrong : ChangeSpec := { name := "arenaPlays", fn := fun _ => fun
  | [d1, d2] => { results := [.lit (.bool false)], args := [d1, d2] }
  | _ => none }
def ArenaPlaysWrongFalsely : Prop := arenaPlaysRow.holds Try.pinned (OpenSpec.ofChange arenaPlaysWrong)

/-- 'trefoillaw08.ArenaNever': WHATEVER THE INPUT: true; the input reads as it did. -/
def arenaNeverSpec : ChangeSpec := { name := "arenaNever", fn := fun _ => fun
  | [d1, d2] => { results := [.lit (.bool true)], args := [d1, d2] }
  | _ => none }
def arenaNeverRow : OpenClaim := { program := "ytfkkkndigkchcaa", sum := "ecbb5dbefed897691127be25adc3a0b12aade9e513fa206aacf7bbfa4dfc960f", func := "trefoil/trefoillaw08.ArenaNever", spec := "arenaNever", unfollowed := true, recurses := true, apart := false }
def ArenaNeverSaid : Prop := arenaNeverRow.holds Try.pinned (OpenSpec.ofChange arenaNeverSpec)

/-- ITS FALSE NEIGHBOUR: 'it returns false'. Refute it at one input. -/
def arenaNeverWrong : ChangeSpec := { name := "arenaNever", fn := fun _ => fun
  | [d1, d2] => { results := [.lit (.bool false)], args := [d1, d2] }
  | _ => none }
def ArenaNeverWrongFalsely : Prop := arenaNeverRow.holds Try.pinned (OpenSpec.ofChange arenaNeverWrong)

/-- 'trefoillaw08.ArenaBack': WHATEVER THE INPUT: true; the input reads as it did. -/
def arenaBackSpec : ChangeSpec := { name := "arenaBack", fn := fun _ => fun
  | [d1, d2, d3] => { results := [.lit (.bool true)], args := [d1, d2, d3] }
  | _ => none }
def arenaBackRow : OpenClaim := { program := "ytfkkkndigkchcaa", sum := "ecbb5dbefed897691127be25adc3a0b12aade9e513fa206aacf7bbfa4dfc960f", func := "trefoil/trefoillaw08.ArenaBack", spec := "arenaBack", unfollowed := true, recurses := true, apart := false }
def ArenaBackSaid : Prop := arenaBackRow.holds Try.pinned (OpenSpec.ofChange arenaBackSpec)

/-- ITS FALSE NEIGHBOUR: 'it returns false'. Refute it at one input. -/
def arenaBackWrong : ChangeSpec := { name := "arenaBack", fn := fun _ => fun
  | [d1, d2, d3] => { results := [.lit (.bool false)], args := [d1, d2, d3] }
  | _ => none }
def ArenaBackWrongFalsely : Prop := arenaBackRow.holds Try.pinned (OpenSpec.ofChange arenaBackWrong)

/-- 'trefoillaw08.ArenaRow': WHATEVER THE INPUT: true; the input reads as it did. -/
def arenaRowSpec : ChangeSpec := { name := "arenaRow", fn := fun _ => fun
  | [d] => { results := [.lit (.bool true)], args := [d] }
  | _ => none }
def arenaRowRow : OpenClaim := { program := "ytfkkkndigkchcaa", sum := "ecbb5dbefed897691127be25adc3a0b12aade9e513fa206aacf7bbfa4dfc960f", func := "trefoil/trefoillaw08.ArenaRow", spec := "arenaRow", unfollowed := true, recurses := true, apart := false }
def ArenaRowSaid : Prop := arenaRowRow.holds Try.pinned (OpenSpec.ofChange arenaRowSpec)

/-- ITS FALSE NEIGHBOUR: 'it returns false'. Refute it at one input. -/
def arenaRowWrong : ChangeSpec := { name := "arenaRow", fn := fun _ => fun
  | [d] => { results := [.lit (.bool false)], args := [d] }
  | _ => none }
def ArenaRowWrongFalsely : Prop := arenaRowRow.holds Try.pinned (OpenSpec.ofChange arenaRowWrong)

/-- 'trefoillaw08.ArenaKnown': WHATEVER THE INPUT: true; the input reads as it did. -/
def arenaKnownSpec : ChangeSpec := { name := "arenaKnown", fn := fun _ => fun
  | [] => { results := [.lit (.bool true)], args := [] }
  | _ => none }
def arenaKnownRow : OpenClaim := { program := "ytfkkkndigkchcaa", sum := "ecbb5dbefed897691127be25adc3a0b12aade9e513fa206aacf7bbfa4dfc960f", func := "trefoil/trefoillaw08.ArenaKnown", spec := "arenaKnown", unfollowed := true, recurses := true, apart := false }
def ArenaKnownSaid : Prop := arenaKnownRow.holds Try.pinned (OpenSpec.ofChange arenaKnownSpec)

/-- ITS FALSE NEIGHBOUR: 'it returns false'. Refute it at one input. -/
def arenaKnownWrong : ChangeSpec := { name := "arenaKnown", fn := fun _ => fun
  | [] => { results := [.lit (.bool false)], args := [] }
  | _ => none }
def ArenaKnownWrongFalsely : Prop := arenaKnownRow.holds Try.pinned (OpenSpec.ofChange arenaKnownWrong)

/-- 'trefoillaw09.ZoneUndone': WHATEVER THE INPUT: true; the input reads as it did. -/
def zoneUndoneSpec : ChangeSpec := { name := "zoneUndone", fn := fun _ => fun
  | [d1, d2, d3] => { results := [.lit (.bool true)], args := [d1, d2, d3] }
  | _ => none }
def zoneUndoneRow : OpenClaim := { program := "ytfkkkndigkchcaa", sum := "ecbb5dbefed897691127be25adc3a0b12aade9e513fa206aacf7bbfa4dfc960f", func := "trefoil/trefoillaw09.ZoneUndone", spec := "zoneUndone", unfollowed := true, recurses := true, apart := false }
def ZoneUndoneSaid : Prop := zoneUndoneRow.holds Try.pinned (OpenSpec.ofChange zoneUndoneSpec)

/-- ITS FALSE NEIGHBOUR: 'it returns false'. Refute it at one input. -/
def zoneUndoneWrong : ChangeSpec := { name := "zoneUndone", fn := fun _ => fun
  | [d1, d2, d3] => { results := [.lit (.bool false)], args := [d1, d2, d3] }
  | _ => none }
def ZoneUndoneWrongFalsely : Prop := zoneUndoneRow.holds Try.pinned (OpenSpec.ofChange zoneUndoneWrong)

/-- 'trefoillaw09.ZoneKnown': WHATEVER THE INPUT: true; the input reads as it did. -/
def zoneKnownSpec : ChangeSpec := { name := "zoneKnown", fn := fun _ => fun
  | [] => { results := [.lit (.bool true)], args := [] }
  | _ => none }
def zoneKnownRow : OpenClaim := { program := "ytfkkkndigkchcaa", sum := "ecbb5dbefed897691127be25adc3a0b12aade9e513fa206aacf7bbfa4dfc960f", func := "trefoil/trefoillaw09.ZoneKnown", spec := "zoneKnown", unfollowed := true, recurses := true, apart := false }
def ZoneKnownSaid : Prop := zoneKnownRow.holds Try.pinned (OpenSpec.ofChange zoneKnownSpec)

/-- ITS FALSE NEIGHBOUR: 'it returns false'. Refute it at one input. -/
def zoneKnownWrong : ChangeSpec := { name := "zoneKnown", fn := fun _ => fun
  | [] => { results := [.lit (.bool false)], args := [] }
  | _ => none }
def ZoneKnownWrongFalsely : Prop := zoneKnownRow.holds Try.pinned (OpenSpec.ofChange zoneKnownWrong)

/-- 'trefoillaw09.ZoneKnows': WHATEVER THE INPUT: true; the input reads as it did. -/
def zoneKnowsSpec : ChangeSpec := { name := "zoneKnows", fn := fun _ => fun
  | [d] => { results := [.lit (.bool true)], args := [d] }
  | _ => none }
def zoneKnowsRow : OpenClaim := { program := "ytfkkkndigkchcaa", sum := "ecbb5dbefed897691127be25adc3a0b12aade9e513fa206aacf7bbfa4dfc960f", func := "trefoil/trefoillaw09.ZoneKnows", spec := "zoneKnows", unfollowed := true, recurses := true, apart := false }
def ZoneKnowsSaid : Prop := zoneKnowsRow.holds Try.pinned (OpenSpec.ofChange zoneKnowsSpec)

/-- ITS FALSE NEIGHBOUR: 'it returns false'. Refute it at one input. -/
def zoneKnowsWrong : ChangeSpec := { name := "zoneKnows", fn := fun _ => fun
  | [d] => { results := [.lit (.bool false)], args := [d] }
  | _ => none }
def ZoneKnowsWrongFalsely : Prop := zoneKnowsRow.holds Try.pinned (OpenSpec.ofChange zoneKnowsWrong)

/-- 'trefoillaw09.ZonePlays': WHATEVER THE INPUT: true; the input reads as it did. -/
def zonePlaysSpec : ChangeSpec := { name := "zonePlays", fn := fun _ => fun
  | [d1, d2, d3] => { results := [.lit (.bool true)], args := [d1, d2, d3] }
  | _ => none }
def zonePlaysRow : OpenClaim := { program := "ytfkkkndigkchcaa", sum := "ecbb5dbefed897691127be25adc3a0b12aade9e513fa206aacf7bbfa4dfc960f", func := "trefoil/trefoillaw09.ZonePlays", spec := "zonePlays", unfollowed := true, recurses := true, apart := false }
def ZonePlaysSaid : Prop := zonePlaysRow.holds Try.pinned (OpenSpec.ofChange zonePlaysSpec)

/-- ITS FALSE NEIGHBOUR: 'it returns false'. Refute it at one input. -/
def zonePlaysWrong : ChangeSpec := { name := "zonePlays", fn := fun _ => fun
  | [d1, d2, d3] => { results := [.lit (.bool false)], args := [d1, d2, d3] }
  | _ => none }
def ZonePlaysWrongFalsely : Prop := zonePlaysRow.holds Try.pinned (OpenSpec.ofChange zonePlaysWrong)

/- THE SECOND FORM. 'bulk': how many values and letters a reading holds, each counted each time it is reached (what is shared counts as often as it is met; a slice's spare places count too). A statement '..UptoSaid' is the law's where the arguments, and the package variables that the reading takes, are together of bulk at most 1048576: NARROWER than '..Said'. Prove '..Said' where nothing that the law and all that it calls make is longer than what came in: it says more and counts as full. Else prove '..UptoSaid'. A law counts once. -/
mutual
def uptoBulk {H : Type} : DataW H → Nat
  | .lit (.string bytes) => bytes.length + 1
  | .lit _ => 1
  | .nil => 1
  | .ptr d => uptoBulk d + 1
  | .slice elems spare => uptoBulkAll elems + uptoBulkAll spare + 1
  | .agg parts => uptoBulkAll parts + 1
  | .iface _ d => uptoBulk d + 1
  | .map entries => uptoBulkEntries entries + 1
  | .held _ => 1
def uptoBulkAll {H : Type} : List (DataW H) → Nat
  | [] => 0
  | d :: r => uptoBulk d + uptoBulkAll r
def uptoBulkEntries {H : Type} : List (Lit × DataW H) → Nat
  | [] => 0
  | x :: r => uptoBulkEntry x + uptoBulkEntries r
def uptoBulkEntry {H : Type} : Lit × DataW H → Nat
  | (.string bytes, d) => bytes.length + uptoBulk d + 1
  | (_, d) => uptoBulk d + 1
 end
def uptoSmall : (H : Type) → List (DataW H) → Bool := fun _ ds => decide (uptoBulkAll ds ≤ 1048576)
def OpenSpec.upto (s : _root_.Go.ChangeSpec) : _root_.Go.OpenSpec := { _root_.Go.OpenSpec.ofChange s with cond := some uptoSmall }

/-- 'trefoillaw07.TrailPlays', WHERE WHAT IT READS IS OF BULK AT MOST 1048576: true; the input reads as it did. -/
def trailPlaysUptoRow : OpenClaim := { program := "ytfkkkndigkchcaa", sum := "ecbb5dbefed897691127be25adc3a0b12aade9e513fa206aacf7bbfa4dfc960f", func := "trefoil/trefoillaw07.TrailPlays", spec := "trailPlays", unfollowed := true, recurses := true, apart := false, narrowed := true }
def TrailPlaysUptoSaid : Prop := trailPlaysUptoRow.holds Try.pinned (OpenSpec.upto trailPlaysSpec)

/-- 'trefoillaw07.TrailBack', WHERE WHAT IT READS IS OF BULK AT MOST 1048576: true; the input reads as it did. -/
def trailBackUptoRow : OpenClaim := { program := "ytfkkkndigkchcaa", sum := "ecbb5dbefed897691127be25adc3a0b12aade9e513fa206aacf7bbfa4dfc960f", func := "trefoil/trefoillaw07.TrailBack", spec := "trailBack", unfollowed := true, recurses := true, apart := false, narrowed := true }
def TrailBackUptoSaid : Prop := trailBackUptoRow.holds Try.pinned (OpenSpec.upto trailBackSpec)

/-- 'trefoillaw07.TrailOnce', WHERE WHAT IT READS IS OF BULK AT MOST 1048576: true; the input reads as it did. -/
def trailOnceUptoRow : OpenClaim := { program := "ytfkkkndigkchcaa", sum := "ecbb5dbefed897691127be25adc3a0b12aade9e513fa206aacf7bbfa4dfc960f", func := "trefoil/trefoillaw07.TrailOnce", spec := "trailOnce", unfollowed := true, recurses := true, apart := false, narrowed := true }
def TrailOnceUptoSaid : Prop := trailOnceUptoRow.holds Try.pinned (OpenSpec.upto trailOnceSpec)

/-- 'trefoillaw07.TrailKnown', WHERE WHAT IT READS IS OF BULK AT MOST 1048576: true; the input reads as it did. -/
def trailKnownUptoRow : OpenClaim := { program := "ytfkkkndigkchcaa", sum := "ecbb5dbefed897691127be25adc3a0b12aade9e513fa206aacf7bbfa4dfc960f", func := "trefoil/trefoillaw07.TrailKnown", spec := "trailKnown", unfollowed := true, recurses := true, apart := false, narrowed := true }
def TrailKnownUptoSaid : Prop := trailKnownUptoRow.holds Try.pinned (OpenSpec.upto trailKnownSpec)

/-- 'trefoillaw07.TrailGrows', WHERE WHAT IT READS IS OF BULK AT MOST 1048576: true; the input reads as it did. -/
def trailGrowsUptoRow : OpenClaim := { program := "ytfkkkndigkchcaa", sum := "ecbb5dbefed897691127be25adc3a0b12aade9e513fa206aacf7bbfa4dfc960f", func := "trefoil/trefoillaw07.TrailGrows", spec := "trailGrows", unfollowed := true, recurses := true, apart := false, narrowed := true }
def TrailGrowsUptoSaid : Prop := trailGrowsUptoRow.holds Try.pinned (OpenSpec.upto trailGrowsSpec)

/-- 'trefoillaw09.ZoneMoves', WHERE WHAT IT READS IS OF BULK AT MOST 1048576: true; the input reads as it did. -/
def zoneMovesUptoRow : OpenClaim := { program := "ytfkkkndigkchcaa", sum := "ecbb5dbefed897691127be25adc3a0b12aade9e513fa206aacf7bbfa4dfc960f", func := "trefoil/trefoillaw09.ZoneMoves", spec := "zoneMoves", unfollowed := true, recurses := true, apart := false, narrowed := true }
def ZoneMovesUptoSaid : Prop := zoneMovesUptoRow.holds Try.pinned (OpenSpec.upto zoneMovesSpec)

/-- 'trefoillaw08.ArenaPlays', WHERE WHAT IT READS IS OF BULK AT MOST 1048576: true; the input reads as it did. -/
def arenaPlaysUptoRow : OpenClaim := { program := "ytfkkkndigkchcaa", sum := "ecbb5dbefed897691127be25adc3a0b12aade9e513fa206aacf7bbfa4dfc960f", func := "trefoil/trefoillaw08.ArenaPlays", spec := "arenaPlays", unfollowed := true, recurses := true, apart := false, narrowed := true }
def ArenaPlaysUptoSaid : Prop := arenaPlaysUptoRow.holds Try.pinned (OpenSpec.upto arenaPlaysSpec)

/-- 'trefoillaw08.ArenaNever', WHERE WHAT IT READS IS OF BULK AT MOST 1048576: true; the input reads as it did. -/
def arenaNeverUptoRow : OpenClaim := { program := "ytfkkkndigkchcaa", sum := "ecbb5dbefed897691127be25adc3a0b12aade9e513fa206aacf7bbfa4dfc960f", func := "trefoil/trefoillaw08.ArenaNever", spec := "arenaNever", unfollowed := true, recurses := true, apart := false, narrowed := true }
def ArenaNeverUptoSaid : Prop := arenaNeverUptoRow.holds Try.pinned (OpenSpec.upto arenaNeverSpec)

/-- 'trefoillaw08.ArenaBack', WHERE WHAT IT READS IS OF BULK AT MOST 1048576: true; the input reads as it did. -/
def arenaBackUptoRow : OpenClaim := { program := "ytfkkkndigkchcaa", sum := "ecbb5dbefed897691127be25adc3a0b12aade9e513fa206aacf7bbfa4dfc960f", func := "trefoil/trefoillaw08.ArenaBack", spec := "arenaBack", unfollowed := true, recurses := true, apart := false, narrowed := true }
def ArenaBackUptoSaid : Prop := arenaBackUptoRow.holds Try.pinned (OpenSpec.upto arenaBackSpec)

/-- 'trefoillaw08.ArenaRow', WHERE WHAT IT READS IS OF BULK AT MOST 1048576: true; the input reads as it did. -/
def arenaRowUptoRow : OpenClaim := { program := "ytfkkkndigkchcaa", sum := "ecbb5dbefed897691127be25adc3a0b12aade9e513fa206aacf7bbfa4dfc960f", func := "trefoil/trefoillaw08.ArenaRow", spec := "arenaRow", unfollowed := true, recurses := true, apart := false, narrowed := true }
def ArenaRowUptoSaid : Prop := arenaRowUptoRow.holds Try.pinned (OpenSpec.upto arenaRowSpec)

/-- 'trefoillaw08.ArenaKnown', WHERE WHAT IT READS IS OF BULK AT MOST 1048576: true; the input reads as it did. -/
def arenaKnownUptoRow : OpenClaim := { program := "ytfkkkndigkchcaa", sum := "ecbb5dbefed897691127be25adc3a0b12aade9e513fa206aacf7bbfa4dfc960f", func := "trefoil/trefoillaw08.ArenaKnown", spec := "arenaKnown", unfollowed := true, recurses := true, apart := false, narrowed := true }
def ArenaKnownUptoSaid : Prop := arenaKnownUptoRow.holds Try.pinned (OpenSpec.upto arenaKnownSpec)

/-- 'trefoillaw09.ZoneUndone', WHERE WHAT IT READS IS OF BULK AT MOST 1048576: true; the input reads as it did. -/
def zoneUndoneUptoRow : OpenClaim := { program := "ytfkkkndigkchcaa", sum := "ecbb5dbefed897691127be25adc3a0b12aade9e513fa206aacf7bbfa4dfc960f", func := "trefoil/trefoillaw09.ZoneUndone", spec := "zoneUndone", unfollowed := true, recurses := true, apart := false, narrowed := true }
def ZoneUndoneUptoSaid : Prop := zoneUndoneUptoRow.holds Try.pinned (OpenSpec.upto zoneUndoneSpec)

/-- 'trefoillaw09.ZoneKnown', WHERE WHAT IT READS IS OF BULK AT MOST 1048576: true; the input reads as it did. -/
def zoneKnownUptoRow : OpenClaim := { program := "ytfkkkndigkchcaa", sum := "ecbb5dbefed897691127be25adc3a0b12aade9e513fa206aacf7bbfa4dfc960f", func := "trefoil/trefoillaw09.ZoneKnown", spec := "zoneKnown", unfollowed := true, recurses := true, apart := false, narrowed := true }
def ZoneKnownUptoSaid : Prop := zoneKnownUptoRow.holds Try.pinned (OpenSpec.upto zoneKnownSpec)

/-- 'trefoillaw09.ZoneKnows', WHERE WHAT IT READS IS OF BULK AT MOST 1048576: true; the input reads as it did. -/
def zoneKnowsUptoRow : OpenClaim := { program := "ytfkkkndigkchcaa", sum := "ecbb5dbefed897691127be25adc3a0b12aade9e513fa206aacf7bbfa4dfc960f", func := "trefoil/trefoillaw09.ZoneKnows", spec := "zoneKnows", unfollowed := true, recurses := true, apart := false, narrowed := true }
def ZoneKnowsUptoSaid : Prop := zoneKnowsUptoRow.holds Try.pinned (OpenSpec.upto zoneKnowsSpec)

/-- 'trefoillaw09.ZonePlays', WHERE WHAT IT READS IS OF BULK AT MOST 1048576: true; the input reads as it did. -/
def zonePlaysUptoRow : OpenClaim := { program := "ytfkkkndigkchcaa", sum := "ecbb5dbefed897691127be25adc3a0b12aade9e513fa206aacf7bbfa4dfc960f", func := "trefoil/trefoillaw09.ZonePlays", spec := "zonePlays", unfollowed := true, recurses := true, apart := false, narrowed := true }
def ZonePlaysUptoSaid : Prop := zonePlaysUptoRow.holds Try.pinned (OpenSpec.upto zonePlaysSpec)

end Rows
end Go.Proofs.Ytfkkkndigkchcaa
