/-
  DERIVED. GIVEN WITH THE SEED: THE CARDS: each row of YtgdgknjhhgkabaaGreatDoorRows.lean that lists a variable, with what it lists TIED to the program's text (the seventh form; the later family's looks); each row that meets fmt, with fmt's text TOLD by the authors' own Lean function (tested against real Go, not proved from fmt's source: count such statements apart). THE CARD IS WHAT COUNTS. Prove the row's statement (the work); the ties are given (YtgdgknjhhgkabaaGreatDoorTie.lean); close each card by the builder's one call (the guide's Derived/Test/ToyasCard.lean, 'card_holds'). Laid BY PROGRAM, IN A SANDBOX (cutbox-door.mjs). By AI agents, Wed Nov 11 2026. No macro, syntax, notation, axiom, sorry.
-/
import Derived.Test.YtgdgknjhhgkabaaGreatDoorRows
import GoSem.ClaimSeven
namespace Go.Proofs.YtgdgknjhhgkabaaGreatDoor
namespace Rows

/-- THE TIED CARD OF 'reliquarylaw23.WalkLoops'. -/
def walkLoopsCard : Claim7 := { stood := { row := walkLoopsRow, standIns := [], harness := (true, "1df3326edb6c556963d863af63506d5d9ff664d82acbe83423c5de290ba1ce5e"), looks := false }, kinds := [], alts := [], laidByText := true, laidKinds := [.data, .data], laidTests := true, laidLooks := .later }
def WalkLoopsCardSaid : Prop := Claim7.holds Tryz.pinned (.plain (OpenSpec.ofChange walkLoopsSpec)) walkLoopsCard

/-- THE TIED CARD OF 'reliquarylaw23.WalkUps'. -/
def walkUpsCard : Claim7 := { stood := { row := walkUpsRow, standIns := [], harness := (true, "1df3326edb6c556963d863af63506d5d9ff664d82acbe83423c5de290ba1ce5e"), looks := false }, kinds := [], alts := [], laidByText := true, laidKinds := [.data, .data], laidTests := true, laidLooks := .later }
def WalkUpsCardSaid : Prop := Claim7.holds Tryz.pinned (.plain (OpenSpec.ofChange walkUpsSpec)) walkUpsCard

/-- THE TIED CARD OF 'reliquarylaw24.NamingMoves'. -/
def namingMovesCard : Claim7 := { stood := { row := namingMovesRow, standIns := [], harness := (true, "1df3326edb6c556963d863af63506d5d9ff664d82acbe83423c5de290ba1ce5e"), looks := false }, kinds := [], alts := [], laidByText := true, laidKinds := [.data, .data], laidTests := true, laidLooks := .later }
def NamingMovesCardSaid : Prop := Claim7.holds Tryz.pinned (.plain (OpenSpec.ofChange namingMovesSpec)) namingMovesCard

/-- THE SECOND FORM's CARD OF 'reliquarylaw23.WalkLoops'. -/
def walkLoopsUptoCard : Claim7 := { stood := { row := walkLoopsUptoRow, standIns := [], harness := (true, "1df3326edb6c556963d863af63506d5d9ff664d82acbe83423c5de290ba1ce5e"), looks := false }, kinds := [], alts := [], laidByText := true, laidKinds := [.data, .data], laidTests := true, laidLooks := .later }
def WalkLoopsUptoCardSaid : Prop := Claim7.holds Tryz.pinned (.plain (OpenSpec.upto walkLoopsSpec)) walkLoopsUptoCard

/-- THE SECOND FORM's CARD OF 'reliquarylaw23.WalkUps'. -/
def walkUpsUptoCard : Claim7 := { stood := { row := walkUpsUptoRow, standIns := [], harness := (true, "1df3326edb6c556963d863af63506d5d9ff664d82acbe83423c5de290ba1ce5e"), looks := false }, kinds := [], alts := [], laidByText := true, laidKinds := [.data, .data], laidTests := true, laidLooks := .later }
def WalkUpsUptoCardSaid : Prop := Claim7.holds Tryz.pinned (.plain (OpenSpec.upto walkUpsSpec)) walkUpsUptoCard

/-- THE SECOND FORM's CARD OF 'reliquarylaw24.NamingMoves'. -/
def namingMovesUptoCard : Claim7 := { stood := { row := namingMovesUptoRow, standIns := [], harness := (true, "1df3326edb6c556963d863af63506d5d9ff664d82acbe83423c5de290ba1ce5e"), looks := false }, kinds := [], alts := [], laidByText := true, laidKinds := [.data, .data], laidTests := true, laidLooks := .later }
def NamingMovesUptoCardSaid : Prop := Claim7.holds Tryz.pinned (.plain (OpenSpec.upto namingMovesSpec)) namingMovesUptoCard
end Rows
end Go.Proofs.YtgdgknjhhgkabaaGreatDoor
