/-
  DERIVED. GIVEN WITH THE SEED: THE CARDS: each row of YtfephhdmijbknaaGreatDoorRows.lean that lists a variable, with what it lists TIED to the program's text (the seventh form; the later family's looks); each row that meets fmt, with fmt's text TOLD by the authors' own Lean function (tested against real Go, not proved from fmt's source: count such statements apart). THE CARD IS WHAT COUNTS. Prove the row's statement (the work); the ties are given (YtfephhdmijbknaaGreatDoorTie.lean); close each card by the builder's one call (the guide's Derived/Test/ToyasCard.lean, 'card_holds'). Laid BY PROGRAM, IN A SANDBOX (cutbox-door.mjs). By AI agents, Wed Nov 11 2026. No macro, syntax, notation, axiom, sorry.
-/
import Derived.Test.YtfephhdmijbknaaGreatDoorRows
import GoSem.ClaimSeven
namespace Go.Proofs.YtfephhdmijbknaaGreatDoor
namespace Rows

/-- THE TIED CARD OF 'reliquarylaw23.WalkParses'. -/
def walkParsesCard : Claim7 := { stood := { row := walkParsesRow, standIns := [], harness := (true, "d310c06c965a55be65c6843ea40b03561008a864325004f7b6100f3dfaec7a35"), looks := false }, kinds := [], alts := [], laidByText := true, laidKinds := [.data, .data], laidTests := true, laidLooks := .later }
def WalkParsesCardSaid : Prop := Claim7.holds Tryz.pinned (.plain (OpenSpec.ofChange walkParsesSpec)) walkParsesCard

/-- THE TIED CARD OF 'reliquarylaw23.WalkNames'. -/
def walkNamesCard : Claim7 := { stood := { row := walkNamesRow, standIns := [], harness := (true, "d310c06c965a55be65c6843ea40b03561008a864325004f7b6100f3dfaec7a35"), looks := false }, kinds := [], alts := [], laidByText := true, laidKinds := [.data, .data], laidTests := true, laidLooks := .later }
def WalkNamesCardSaid : Prop := Claim7.holds Tryz.pinned (.plain (OpenSpec.ofChange walkNamesSpec)) walkNamesCard

/-- THE SECOND FORM's CARD OF 'reliquarylaw23.WalkParses'. -/
def walkParsesUptoCard : Claim7 := { stood := { row := walkParsesUptoRow, standIns := [], harness := (true, "d310c06c965a55be65c6843ea40b03561008a864325004f7b6100f3dfaec7a35"), looks := false }, kinds := [], alts := [], laidByText := true, laidKinds := [.data, .data], laidTests := true, laidLooks := .later }
def WalkParsesUptoCardSaid : Prop := Claim7.holds Tryz.pinned (.plain (OpenSpec.upto walkParsesSpec)) walkParsesUptoCard

/-- THE SECOND FORM's CARD OF 'reliquarylaw23.WalkNames'. -/
def walkNamesUptoCard : Claim7 := { stood := { row := walkNamesUptoRow, standIns := [], harness := (true, "d310c06c965a55be65c6843ea40b03561008a864325004f7b6100f3dfaec7a35"), looks := false }, kinds := [], alts := [], laidByText := true, laidKinds := [.data, .data], laidTests := true, laidLooks := .later }
def WalkNamesUptoCardSaid : Prop := Claim7.holds Tryz.pinned (.plain (OpenSpec.upto walkNamesSpec)) walkNamesUptoCard
end Rows
end Go.Proofs.YtfephhdmijbknaaGreatDoor
