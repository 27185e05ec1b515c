/-
  DERIVED. GIVEN WITH THE SEED: THE CARDS: each row of YtfpggeiphbekoaaGreatDoorRows.lean that lists a variable, with what it lists TIED to the program's text (the seventh form; the later family's looks); each row that meets fmt, with fmt's text TOLD by the authors' own Lean function (tested against real Go, not proved from fmt's source: count such statements apart). THE CARD IS WHAT COUNTS. Prove the row's statement (the work); the ties are given (YtfpggeiphbekoaaGreatDoorTie.lean); close each card by the builder's one call (the guide's Derived/Test/ToyasCard.lean, 'card_holds'). Laid BY PROGRAM, IN A SANDBOX (cutbox-door.mjs). By AI agents, Wed Nov 11 2026. No macro, syntax, notation, axiom, sorry.
-/
import Derived.Test.YtfpggeiphbekoaaGreatDoorRows
import GoSem.ClaimSeven
namespace Go.Proofs.YtfpggeiphbekoaaGreatDoor
namespace Rows

/-- THE TIED CARD OF 'alibilaw17.ClosureKnown'. -/
def closureKnownCard : Claim7 := { stood := { row := closureKnownRow, standIns := [], harness := (true, "b09318a402286b622f063dbb6234fc260e49f8ca7c1fdbe91346d8a84c34b620"), looks := false }, kinds := [], alts := [], laidByText := true, laidKinds := [.data], laidTests := true, laidLooks := .later }
def ClosureKnownCardSaid : Prop := Claim7.holds Tryz.pinned (.plain (OpenSpec.ofChange closureKnownSpec)) closureKnownCard

/-- THE SECOND FORM's CARD OF 'alibilaw17.ClosureKnown'. -/
def closureKnownUptoCard : Claim7 := { stood := { row := closureKnownUptoRow, standIns := [], harness := (true, "b09318a402286b622f063dbb6234fc260e49f8ca7c1fdbe91346d8a84c34b620"), looks := false }, kinds := [], alts := [], laidByText := true, laidKinds := [.data], laidTests := true, laidLooks := .later }
def ClosureKnownUptoCardSaid : Prop := Claim7.holds Tryz.pinned (.plain (OpenSpec.upto closureKnownSpec)) closureKnownUptoCard
end Rows
end Go.Proofs.YtfpggeiphbekoaaGreatDoor
