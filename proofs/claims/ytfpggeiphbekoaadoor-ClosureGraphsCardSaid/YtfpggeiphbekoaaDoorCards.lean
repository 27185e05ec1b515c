/-
  DERIVED. GIVEN WITH THE SEED: THE CARDS: each row of YtfpggeiphbekoaaDoorRows.lean that lists a variable, with what it lists TIED to the program's text (the seventh form; the later family's looks); each row that meets fmt, with fmt's text TOLD by the authors' own Lean function (tested against real Go, not proved from fmt's source: count such statements apart). THE CARD IS WHAT COUNTS. Prove the row's statement (the work); the ties are given (YtfpggeiphbekoaaDoorTie.lean); close each card by the builder's one call (the guide's Derived/Test/ToyasCard.lean, 'card_holds'). Laid BY PROGRAM, IN A SANDBOX (cutbox-door.mjs). By AI agents, Wed Nov 11 2026. No macro, syntax, notation, axiom, sorry.
-/
import Derived.Test.YtfpggeiphbekoaaDoorRows
import GoSem.ClaimSeven
namespace Go.Proofs.YtfpggeiphbekoaaDoor
namespace Rows

/-- THE TIED CARD OF 'alibilaw17.ClosurePlays'. -/
def closurePlaysCard : Claim7 := { stood := { row := closurePlaysRow, standIns := [], harness := (true, "03211fed6e84a81a426d11b29ce4bd28ceabd94beed45e846cdc00f0c6990073"), looks := false }, kinds := [], alts := [], laidByText := true, laidKinds := [.data], laidTests := true, laidLooks := .later }
def ClosurePlaysCardSaid : Prop := Claim7.holds Tryd.pinned (.plain (OpenSpec.ofChange closurePlaysSpec)) closurePlaysCard

/-- THE TIED CARD OF 'alibilaw17.ClosureNone'. -/
def closureNoneCard : Claim7 := { stood := { row := closureNoneRow, standIns := [], harness := (true, "03211fed6e84a81a426d11b29ce4bd28ceabd94beed45e846cdc00f0c6990073"), looks := false }, kinds := [], alts := [], laidByText := true, laidKinds := [.data], laidTests := true, laidLooks := .later }
def ClosureNoneCardSaid : Prop := Claim7.holds Tryd.pinned (.plain (OpenSpec.ofChange closureNoneSpec)) closureNoneCard

/-- THE TIED CARD OF 'alibilaw17.ClosureOrders'. -/
def closureOrdersCard : Claim7 := { stood := { row := closureOrdersRow, standIns := [], harness := (true, "03211fed6e84a81a426d11b29ce4bd28ceabd94beed45e846cdc00f0c6990073"), looks := false }, kinds := [], alts := [], laidByText := true, laidKinds := [.data], laidTests := true, laidLooks := .later }
def ClosureOrdersCardSaid : Prop := Claim7.holds Tryd.pinned (.plain (OpenSpec.ofChange closureOrdersSpec)) closureOrdersCard

/-- THE TIED CARD OF 'alibilaw17.ClosureGraphs'. -/
def closureGraphsCard : Claim7 := { stood := { row := closureGraphsRow, standIns := [], harness := (true, "03211fed6e84a81a426d11b29ce4bd28ceabd94beed45e846cdc00f0c6990073"), looks := false }, kinds := [], alts := [], laidByText := true, laidKinds := [.data], laidTests := true, laidLooks := .later }
def ClosureGraphsCardSaid : Prop := Claim7.holds Tryd.pinned (.plain (OpenSpec.ofChange closureGraphsSpec)) closureGraphsCard

/-- THE SECOND FORM's CARD OF 'alibilaw17.ClosurePlays'. -/
def closurePlaysUptoCard : Claim7 := { stood := { row := closurePlaysUptoRow, standIns := [], harness := (true, "03211fed6e84a81a426d11b29ce4bd28ceabd94beed45e846cdc00f0c6990073"), looks := false }, kinds := [], alts := [], laidByText := true, laidKinds := [.data], laidTests := true, laidLooks := .later }
def ClosurePlaysUptoCardSaid : Prop := Claim7.holds Tryd.pinned (.plain (OpenSpec.upto closurePlaysSpec)) closurePlaysUptoCard

/-- THE SECOND FORM's CARD OF 'alibilaw17.ClosureNone'. -/
def closureNoneUptoCard : Claim7 := { stood := { row := closureNoneUptoRow, standIns := [], harness := (true, "03211fed6e84a81a426d11b29ce4bd28ceabd94beed45e846cdc00f0c6990073"), looks := false }, kinds := [], alts := [], laidByText := true, laidKinds := [.data], laidTests := true, laidLooks := .later }
def ClosureNoneUptoCardSaid : Prop := Claim7.holds Tryd.pinned (.plain (OpenSpec.upto closureNoneSpec)) closureNoneUptoCard

/-- THE SECOND FORM's CARD OF 'alibilaw17.ClosureOrders'. -/
def closureOrdersUptoCard : Claim7 := { stood := { row := closureOrdersUptoRow, standIns := [], harness := (true, "03211fed6e84a81a426d11b29ce4bd28ceabd94beed45e846cdc00f0c6990073"), looks := false }, kinds := [], alts := [], laidByText := true, laidKinds := [.data], laidTests := true, laidLooks := .later }
def ClosureOrdersUptoCardSaid : Prop := Claim7.holds Tryd.pinned (.plain (OpenSpec.upto closureOrdersSpec)) closureOrdersUptoCard

/-- THE SECOND FORM's CARD OF 'alibilaw17.ClosureGraphs'. -/
def closureGraphsUptoCard : Claim7 := { stood := { row := closureGraphsUptoRow, standIns := [], harness := (true, "03211fed6e84a81a426d11b29ce4bd28ceabd94beed45e846cdc00f0c6990073"), looks := false }, kinds := [], alts := [], laidByText := true, laidKinds := [.data], laidTests := true, laidLooks := .later }
def ClosureGraphsUptoCardSaid : Prop := Claim7.holds Tryd.pinned (.plain (OpenSpec.upto closureGraphsSpec)) closureGraphsUptoCard
end Rows
end Go.Proofs.YtfpggeiphbekoaaDoor
