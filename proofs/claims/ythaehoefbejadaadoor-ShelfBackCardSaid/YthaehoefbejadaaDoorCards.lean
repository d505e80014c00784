/-
  DERIVED. GIVEN WITH THE SEED: THE CARDS: each row of YthaehoefbejadaaDoorRows.lean that lists a variable, with what it lists TIED to the program's text (the seventh form; the later family's looks); each row that meets fmt, with fmt's text TOLD by the authors' own Lean function (tested against real Go, not proved from fmt's source: count such statements apart). THE CARD IS WHAT COUNTS. Prove the row's statement (the work); the ties are given (YthaehoefbejadaaDoorTie.lean); close each card by the builder's one call (the guide's Derived/Test/ToyasCard.lean, 'card_holds'). Laid BY PROGRAM, IN A SANDBOX (cutbox-door.mjs). By AI agents, Wed Nov 11 2026. No macro, syntax, notation, axiom, sorry.
-/
import Derived.Test.YthaehoefbejadaaDoorRows
import GoSem.ClaimSeven
namespace Go.Proofs.YthaehoefbejadaaDoor
namespace Rows

/-- THE TIED CARD OF 'auspicelaw05.DiskSure'. -/
def diskSureCard : Claim7 := { stood := { row := diskSureRow, standIns := [], harness := (true, "9cffec276b9a82d9a41785e0b546ac45f5eb5cc480ebaffca61afc726c5eee04"), looks := true }, kinds := [], alts := [], laidByText := true, laidKinds := [.data, .pinned], laidTests := true, laidLooks := .later }
def DiskSureCardSaid : Prop := Claim7.holds Tryd.pinned (.plain (OpenSpec.ofChange diskSureSpec)) diskSureCard

/-- THE TIED CARD OF 'auspicelaw07.ShelfReads'. -/
def shelfReadsCard : Claim7 := { stood := { row := shelfReadsRow, standIns := [], harness := (true, "9cffec276b9a82d9a41785e0b546ac45f5eb5cc480ebaffca61afc726c5eee04"), looks := true }, kinds := [], alts := [], laidByText := true, laidKinds := [.data, .pinned], laidTests := true, laidLooks := .later }
def ShelfReadsCardSaid : Prop := Claim7.holds Tryd.pinned (.plain (OpenSpec.ofChange shelfReadsSpec)) shelfReadsCard

/-- THE TIED CARD OF 'auspicelaw07.ShelfTexts'. -/
def shelfTextsCard : Claim7 := { stood := { row := shelfTextsRow, standIns := [], harness := (true, "9cffec276b9a82d9a41785e0b546ac45f5eb5cc480ebaffca61afc726c5eee04"), looks := true }, kinds := [], alts := [], laidByText := true, laidKinds := [.data, .pinned], laidTests := true, laidLooks := .later }
def ShelfTextsCardSaid : Prop := Claim7.holds Tryd.pinned (.plain (OpenSpec.ofChange shelfTextsSpec)) shelfTextsCard

/-- THE TIED CARD OF 'auspicelaw07.ShelfBack'. -/
def shelfBackCard : Claim7 := { stood := { row := shelfBackRow, standIns := [], harness := (true, "9cffec276b9a82d9a41785e0b546ac45f5eb5cc480ebaffca61afc726c5eee04"), looks := true }, kinds := [], alts := [], laidByText := true, laidKinds := [.data, .pinned], laidTests := true, laidLooks := .later }
def ShelfBackCardSaid : Prop := Claim7.holds Tryd.pinned (.plain (OpenSpec.ofChange shelfBackSpec)) shelfBackCard

/-- THE TIED CARD OF 'auspicelaw07.ShelfNil'. -/
def shelfNilCard : Claim7 := { stood := { row := shelfNilRow, standIns := [], harness := (true, "9cffec276b9a82d9a41785e0b546ac45f5eb5cc480ebaffca61afc726c5eee04"), looks := true }, kinds := [], alts := [], laidByText := true, laidKinds := [.data, .pinned], laidTests := true, laidLooks := .later }
def ShelfNilCardSaid : Prop := Claim7.holds Tryd.pinned (.plain (OpenSpec.ofChange shelfNilSpec)) shelfNilCard

/-- THE TIED CARD OF 'auspicelaw05.DiskNil'. -/
def diskNilCard : Claim7 := { stood := { row := diskNilRow, standIns := [], harness := (true, "9cffec276b9a82d9a41785e0b546ac45f5eb5cc480ebaffca61afc726c5eee04"), looks := true }, kinds := [], alts := [], laidByText := true, laidKinds := [.data, .pinned], laidTests := true, laidLooks := .later }
def DiskNilCardSaid : Prop := Claim7.holds Tryd.pinned (.plain (OpenSpec.ofChange diskNilSpec)) diskNilCard

/-- THE SECOND FORM's CARD OF 'auspicelaw05.DiskSure'. -/
def diskSureUptoCard : Claim7 := { stood := { row := diskSureUptoRow, standIns := [], harness := (true, "9cffec276b9a82d9a41785e0b546ac45f5eb5cc480ebaffca61afc726c5eee04"), looks := true }, kinds := [], alts := [], laidByText := true, laidKinds := [.data, .pinned], laidTests := true, laidLooks := .later }
def DiskSureUptoCardSaid : Prop := Claim7.holds Tryd.pinned (.plain (OpenSpec.upto diskSureSpec)) diskSureUptoCard

/-- THE SECOND FORM's CARD OF 'auspicelaw07.ShelfReads'. -/
def shelfReadsUptoCard : Claim7 := { stood := { row := shelfReadsUptoRow, standIns := [], harness := (true, "9cffec276b9a82d9a41785e0b546ac45f5eb5cc480ebaffca61afc726c5eee04"), looks := true }, kinds := [], alts := [], laidByText := true, laidKinds := [.data, .pinned], laidTests := true, laidLooks := .later }
def ShelfReadsUptoCardSaid : Prop := Claim7.holds Tryd.pinned (.plain (OpenSpec.upto shelfReadsSpec)) shelfReadsUptoCard

/-- THE SECOND FORM's CARD OF 'auspicelaw07.ShelfTexts'. -/
def shelfTextsUptoCard : Claim7 := { stood := { row := shelfTextsUptoRow, standIns := [], harness := (true, "9cffec276b9a82d9a41785e0b546ac45f5eb5cc480ebaffca61afc726c5eee04"), looks := true }, kinds := [], alts := [], laidByText := true, laidKinds := [.data, .pinned], laidTests := true, laidLooks := .later }
def ShelfTextsUptoCardSaid : Prop := Claim7.holds Tryd.pinned (.plain (OpenSpec.upto shelfTextsSpec)) shelfTextsUptoCard

/-- THE SECOND FORM's CARD OF 'auspicelaw07.ShelfBack'. -/
def shelfBackUptoCard : Claim7 := { stood := { row := shelfBackUptoRow, standIns := [], harness := (true, "9cffec276b9a82d9a41785e0b546ac45f5eb5cc480ebaffca61afc726c5eee04"), looks := true }, kinds := [], alts := [], laidByText := true, laidKinds := [.data, .pinned], laidTests := true, laidLooks := .later }
def ShelfBackUptoCardSaid : Prop := Claim7.holds Tryd.pinned (.plain (OpenSpec.upto shelfBackSpec)) shelfBackUptoCard

/-- THE SECOND FORM's CARD OF 'auspicelaw07.ShelfNil'. -/
def shelfNilUptoCard : Claim7 := { stood := { row := shelfNilUptoRow, standIns := [], harness := (true, "9cffec276b9a82d9a41785e0b546ac45f5eb5cc480ebaffca61afc726c5eee04"), looks := true }, kinds := [], alts := [], laidByText := true, laidKinds := [.data, .pinned], laidTests := true, laidLooks := .later }
def ShelfNilUptoCardSaid : Prop := Claim7.holds Tryd.pinned (.plain (OpenSpec.upto shelfNilSpec)) shelfNilUptoCard

/-- THE SECOND FORM's CARD OF 'auspicelaw05.DiskNil'. -/
def diskNilUptoCard : Claim7 := { stood := { row := diskNilUptoRow, standIns := [], harness := (true, "9cffec276b9a82d9a41785e0b546ac45f5eb5cc480ebaffca61afc726c5eee04"), looks := true }, kinds := [], alts := [], laidByText := true, laidKinds := [.data, .pinned], laidTests := true, laidLooks := .later }
def DiskNilUptoCardSaid : Prop := Claim7.holds Tryd.pinned (.plain (OpenSpec.upto diskNilSpec)) diskNilUptoCard
end Rows
end Go.Proofs.YthaehoefbejadaaDoor
