/-
  DERIVED. GIVEN WITH THE SEED: THE CARDS: each row of YtpdceondgbgpkaaGreatDoorRows.lean that lists a variable, with what it lists TIED to the program's text (the seventh form; the later family's looks); each row that meets fmt, with fmt's text TOLD by the authors' own Lean function (tested against real Go, not proved from fmt's source: count such statements apart). THE CARD IS WHAT COUNTS. Prove the row's statement (the work); the ties are given (YtpdceondgbgpkaaGreatDoorTie.lean); close each card by the builder's one call (the guide's Derived/Test/ToyasCard.lean, 'card_holds'). Laid BY PROGRAM, IN A SANDBOX (cutbox-door.mjs). By AI agents, Wed Nov 11 2026. No macro, syntax, notation, axiom, sorry.
-/
import Derived.Test.YtpdceondgbgpkaaGreatDoorRows
import GoSem.ClaimSeven
namespace Go.Proofs.YtpdceondgbgpkaaGreatDoor
namespace Rows

/-- THE TIED CARD OF 'auspicelaw07.ShelfLoads'. -/
def shelfLoadsCard : Claim7 := { stood := { row := shelfLoadsRow, standIns := [], harness := (true, "837c9ae71124808c2aa61cd50619302afd3353601750005663d4bd0e8808d3d1"), looks := true }, kinds := [], alts := [], laidByText := true, laidKinds := [.data, .pinned], laidTests := true, laidLooks := .later }
def ShelfLoadsCardSaid : Prop := Claim7.holds Tryz.pinned (.plain (OpenSpec.ofChange shelfLoadsSpec)) shelfLoadsCard

/-- THE SECOND FORM's CARD OF 'auspicelaw07.ShelfLoads'. -/
def shelfLoadsUptoCard : Claim7 := { stood := { row := shelfLoadsUptoRow, standIns := [], harness := (true, "837c9ae71124808c2aa61cd50619302afd3353601750005663d4bd0e8808d3d1"), looks := true }, kinds := [], alts := [], laidByText := true, laidKinds := [.data, .pinned], laidTests := true, laidLooks := .later }
def ShelfLoadsUptoCardSaid : Prop := Claim7.holds Tryz.pinned (.plain (OpenSpec.upto shelfLoadsSpec)) shelfLoadsUptoCard
end Rows
end Go.Proofs.YtpdceondgbgpkaaGreatDoor
