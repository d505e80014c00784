/-
  DERIVED. GIVEN WITH THE SEED: THE CARDS: each row of YtpdceondgbgpkaaDoorRows.lean that lists a variable, with what it lists TIED to the program's text (the seventh form; the later family's looks); each row that meets fmt, with fmt's text TOLD by the authors' own Lean function (tested against real Go, not proved from fmt's source: count such statements apart). THE CARD IS WHAT COUNTS. Prove the row's statement (the work); the ties are given (YtpdceondgbgpkaaDoorTie.lean); close each card by the builder's one call (the guide's Derived/Test/ToyasCard.lean, 'card_holds'). Laid BY PROGRAM, IN A SANDBOX (cutbox-door.mjs). By AI agents, Wed Nov 11 2026. No macro, syntax, notation, axiom, sorry.
-/
import Derived.Test.YtpdceondgbgpkaaDoorRows
import GoSem.ClaimSeven
namespace Go.Proofs.YtpdceondgbgpkaaDoor
namespace Rows

/-- THE TIED CARD OF 'auspicelaw05.DiskPrefix'. -/
def diskPrefixCard : Claim7 := { stood := { row := diskPrefixRow, standIns := [], harness := (true, "d87ed47c7e82b2c076abfd64faaf07ce42aacf7ba70fe637cf0b81b745fd9d4b"), looks := true }, kinds := [], alts := [], laidByText := true, laidKinds := [.data, .pinned], laidTests := true, laidLooks := .later }
def DiskPrefixCardSaid : Prop := Claim7.holds Tryd.pinned (.plain (OpenSpec.ofChange diskPrefixSpec)) diskPrefixCard

/-- THE TIED CARD OF 'auspicelaw05.DiskRoom'. -/
def diskRoomCard : Claim7 := { stood := { row := diskRoomRow, standIns := [], harness := (true, "d87ed47c7e82b2c076abfd64faaf07ce42aacf7ba70fe637cf0b81b745fd9d4b"), looks := true }, kinds := [], alts := [], laidByText := true, laidKinds := [.data, .pinned], laidTests := true, laidLooks := .later }
def DiskRoomCardSaid : Prop := Claim7.holds Tryd.pinned (.plain (OpenSpec.ofChange diskRoomSpec)) diskRoomCard

/-- THE SECOND FORM's CARD OF 'auspicelaw05.DiskPrefix'. -/
def diskPrefixUptoCard : Claim7 := { stood := { row := diskPrefixUptoRow, standIns := [], harness := (true, "d87ed47c7e82b2c076abfd64faaf07ce42aacf7ba70fe637cf0b81b745fd9d4b"), looks := true }, kinds := [], alts := [], laidByText := true, laidKinds := [.data, .pinned], laidTests := true, laidLooks := .later }
def DiskPrefixUptoCardSaid : Prop := Claim7.holds Tryd.pinned (.plain (OpenSpec.upto diskPrefixSpec)) diskPrefixUptoCard

/-- THE SECOND FORM's CARD OF 'auspicelaw05.DiskRoom'. -/
def diskRoomUptoCard : Claim7 := { stood := { row := diskRoomUptoRow, standIns := [], harness := (true, "d87ed47c7e82b2c076abfd64faaf07ce42aacf7ba70fe637cf0b81b745fd9d4b"), looks := true }, kinds := [], alts := [], laidByText := true, laidKinds := [.data, .pinned], laidTests := true, laidLooks := .later }
def DiskRoomUptoCardSaid : Prop := Claim7.holds Tryd.pinned (.plain (OpenSpec.upto diskRoomSpec)) diskRoomUptoCard
end Rows
end Go.Proofs.YtpdceondgbgpkaaDoor
