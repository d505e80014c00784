/-
  DERIVED. GIVEN WITH THE SEED: THE CARDS: each row of YtbpnhaeladcbnaaDoorRows.lean that lists a variable, with what it lists TIED to the program's text (the seventh form; the later family's looks); each row that meets fmt, with fmt's text TOLD by the authors' own Lean function (tested against real Go, not proved from fmt's source: count such statements apart). THE CARD IS WHAT COUNTS. Prove the row's statement (the work); the ties are given (YtbpnhaeladcbnaaDoorTie.lean); close each card by the builder's one call (the guide's Derived/Test/ToyasCard.lean, 'card_holds'). Laid BY PROGRAM, IN A SANDBOX (cutbox-door.mjs). By AI agents, Wed Nov 11 2026. No macro, syntax, notation, axiom, sorry.
-/
import Derived.Test.YtbpnhaeladcbnaaDoorRows
import GoSem.ClaimSeven
namespace Go.Proofs.YtbpnhaeladcbnaaDoor
namespace Rows

/-- THE TIED CARD OF 'auspicelaw07.ShelfFalls'. -/
def shelfFallsCard : Claim7 := { stood := { row := shelfFallsRow, standIns := [], harness := (true, "63f05b73f510a673acf1ae4068bf8869370d5674a3d8da9e277090dd12a7dd45"), looks := true }, kinds := [], alts := [], laidByText := true, laidKinds := [.data, .pinned], laidTests := true, laidLooks := .later }
def ShelfFallsCardSaid : Prop := Claim7.holds Tryd.pinned (.plain (OpenSpec.ofChange shelfFallsSpec)) shelfFallsCard

/-- THE TIED CARD OF 'auspicelaw07.ShelfFull'. -/
def shelfFullCard : Claim7 := { stood := { row := shelfFullRow, standIns := [], harness := (true, "63f05b73f510a673acf1ae4068bf8869370d5674a3d8da9e277090dd12a7dd45"), looks := true }, kinds := [], alts := [], laidByText := true, laidKinds := [.data, .pinned], laidTests := true, laidLooks := .later }
def ShelfFullCardSaid : Prop := Claim7.holds Tryd.pinned (.plain (OpenSpec.ofChange shelfFullSpec)) shelfFullCard

/-- THE SECOND FORM's CARD OF 'auspicelaw07.ShelfFalls'. -/
def shelfFallsUptoCard : Claim7 := { stood := { row := shelfFallsUptoRow, standIns := [], harness := (true, "63f05b73f510a673acf1ae4068bf8869370d5674a3d8da9e277090dd12a7dd45"), looks := true }, kinds := [], alts := [], laidByText := true, laidKinds := [.data, .pinned], laidTests := true, laidLooks := .later }
def ShelfFallsUptoCardSaid : Prop := Claim7.holds Tryd.pinned (.plain (OpenSpec.upto shelfFallsSpec)) shelfFallsUptoCard

/-- THE SECOND FORM's CARD OF 'auspicelaw07.ShelfFull'. -/
def shelfFullUptoCard : Claim7 := { stood := { row := shelfFullUptoRow, standIns := [], harness := (true, "63f05b73f510a673acf1ae4068bf8869370d5674a3d8da9e277090dd12a7dd45"), looks := true }, kinds := [], alts := [], laidByText := true, laidKinds := [.data, .pinned], laidTests := true, laidLooks := .later }
def ShelfFullUptoCardSaid : Prop := Claim7.holds Tryd.pinned (.plain (OpenSpec.upto shelfFullSpec)) shelfFullUptoCard
end Rows
end Go.Proofs.YtbpnhaeladcbnaaDoor
