/-
  DERIVED. GIVEN WITH THE SEED: THE CARDS: each row of YtikoabnonmkhkaaDoorRows.lean that lists a variable, with what it lists TIED to the program's text (the seventh form; the later family's looks); each row that meets fmt, with fmt's text TOLD by the authors' own Lean function (tested against real Go, not proved from fmt's source: count such statements apart). THE CARD IS WHAT COUNTS. Prove the row's statement (the work); the ties are given (YtikoabnonmkhkaaDoorTie.lean); close each card by the builder's one call (the guide's Derived/Test/ToyasCard.lean, 'card_holds'). Laid BY PROGRAM, IN A SANDBOX (cutbox-door.mjs). By AI agents, Wed Nov 11 2026. No macro, syntax, notation, axiom, sorry.
-/
import Derived.Test.YtikoabnonmkhkaaDoorRows
import GoSem.ClaimSeven
namespace Go.Proofs.YtikoabnonmkhkaaDoor
namespace Rows

/-- THE TIED CARD OF 'trefoillaw02.BitsTell'. -/
def bitsTellCard : Claim7 := { stood := { row := bitsTellRow, standIns := [], harness := (true, "cf040034f958a3d00e6f2082003ea1fad403d692c7e7c9cfc2f23d1f65205f90"), looks := false }, kinds := [], alts := [], laidByText := true, laidKinds := [.data], laidTests := true, laidLooks := .later }
def BitsTellCardSaid : Prop := Claim7.holds Tryd.pinned (.plain (OpenSpec.ofChange bitsTellSpec)) bitsTellCard

/-- THE TIED CARD OF 'trefoillaw02.BitsJoin'. -/
def bitsJoinCard : Claim7 := { stood := { row := bitsJoinRow, standIns := [], harness := (true, "cf040034f958a3d00e6f2082003ea1fad403d692c7e7c9cfc2f23d1f65205f90"), looks := false }, kinds := [], alts := [], laidByText := true, laidKinds := [.data], laidTests := true, laidLooks := .later }
def BitsJoinCardSaid : Prop := Claim7.holds Tryd.pinned (.plain (OpenSpec.ofChange bitsJoinSpec)) bitsJoinCard

/-- THE TIED CARD OF 'trefoillaw02.BitsSame'. -/
def bitsSameCard : Claim7 := { stood := { row := bitsSameRow, standIns := [], harness := (true, "cf040034f958a3d00e6f2082003ea1fad403d692c7e7c9cfc2f23d1f65205f90"), looks := false }, kinds := [], alts := [], laidByText := true, laidKinds := [.data], laidTests := true, laidLooks := .later }
def BitsSameCardSaid : Prop := Claim7.holds Tryd.pinned (.plain (OpenSpec.ofChange bitsSameSpec)) bitsSameCard

/-- THE TIED CARD OF 'trefoillaw02.BitsLaws'. -/
def bitsLawsCard : Claim7 := { stood := { row := bitsLawsRow, standIns := [], harness := (true, "cf040034f958a3d00e6f2082003ea1fad403d692c7e7c9cfc2f23d1f65205f90"), looks := false }, kinds := [], alts := [], laidByText := true, laidKinds := [.data], laidTests := true, laidLooks := .later }
def BitsLawsCardSaid : Prop := Claim7.holds Tryd.pinned (.plain (OpenSpec.ofChange bitsLawsSpec)) bitsLawsCard

/-- THE TIED CARD OF 'trefoillaw02.BitsKnown'. -/
def bitsKnownCard : Claim7 := { stood := { row := bitsKnownRow, standIns := [], harness := (true, "cf040034f958a3d00e6f2082003ea1fad403d692c7e7c9cfc2f23d1f65205f90"), looks := false }, kinds := [], alts := [], laidByText := true, laidKinds := [.data], laidTests := true, laidLooks := .later }
def BitsKnownCardSaid : Prop := Claim7.holds Tryd.pinned (.plain (OpenSpec.ofChange bitsKnownSpec)) bitsKnownCard

/-- THE SECOND FORM's CARD OF 'trefoillaw02.BitsTell'. -/
def bitsTellUptoCard : Claim7 := { stood := { row := bitsTellUptoRow, standIns := [], harness := (true, "cf040034f958a3d00e6f2082003ea1fad403d692c7e7c9cfc2f23d1f65205f90"), looks := false }, kinds := [], alts := [], laidByText := true, laidKinds := [.data], laidTests := true, laidLooks := .later }
def BitsTellUptoCardSaid : Prop := Claim7.holds Tryd.pinned (.plain (OpenSpec.upto bitsTellSpec)) bitsTellUptoCard

/-- THE SECOND FORM's CARD OF 'trefoillaw02.BitsJoin'. -/
def bitsJoinUptoCard : Claim7 := { stood := { row := bitsJoinUptoRow, standIns := [], harness := (true, "cf040034f958a3d00e6f2082003ea1fad403d692c7e7c9cfc2f23d1f65205f90"), looks := false }, kinds := [], alts := [], laidByText := true, laidKinds := [.data], laidTests := true, laidLooks := .later }
def BitsJoinUptoCardSaid : Prop := Claim7.holds Tryd.pinned (.plain (OpenSpec.upto bitsJoinSpec)) bitsJoinUptoCard

/-- THE SECOND FORM's CARD OF 'trefoillaw02.BitsSame'. -/
def bitsSameUptoCard : Claim7 := { stood := { row := bitsSameUptoRow, standIns := [], harness := (true, "cf040034f958a3d00e6f2082003ea1fad403d692c7e7c9cfc2f23d1f65205f90"), looks := false }, kinds := [], alts := [], laidByText := true, laidKinds := [.data], laidTests := true, laidLooks := .later }
def BitsSameUptoCardSaid : Prop := Claim7.holds Tryd.pinned (.plain (OpenSpec.upto bitsSameSpec)) bitsSameUptoCard

/-- THE SECOND FORM's CARD OF 'trefoillaw02.BitsLaws'. -/
def bitsLawsUptoCard : Claim7 := { stood := { row := bitsLawsUptoRow, standIns := [], harness := (true, "cf040034f958a3d00e6f2082003ea1fad403d692c7e7c9cfc2f23d1f65205f90"), looks := false }, kinds := [], alts := [], laidByText := true, laidKinds := [.data], laidTests := true, laidLooks := .later }
def BitsLawsUptoCardSaid : Prop := Claim7.holds Tryd.pinned (.plain (OpenSpec.upto bitsLawsSpec)) bitsLawsUptoCard

/-- THE SECOND FORM's CARD OF 'trefoillaw02.BitsKnown'. -/
def bitsKnownUptoCard : Claim7 := { stood := { row := bitsKnownUptoRow, standIns := [], harness := (true, "cf040034f958a3d00e6f2082003ea1fad403d692c7e7c9cfc2f23d1f65205f90"), looks := false }, kinds := [], alts := [], laidByText := true, laidKinds := [.data], laidTests := true, laidLooks := .later }
def BitsKnownUptoCardSaid : Prop := Claim7.holds Tryd.pinned (.plain (OpenSpec.upto bitsKnownSpec)) bitsKnownUptoCard
end Rows
end Go.Proofs.YtikoabnonmkhkaaDoor
