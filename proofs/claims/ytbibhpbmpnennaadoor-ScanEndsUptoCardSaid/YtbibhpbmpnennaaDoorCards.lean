/-
  DERIVED. GIVEN WITH THE SEED: THE CARDS: each row of YtbibhpbmpnennaaDoorRows.lean that lists a variable, with what it lists TIED to the program's text (the seventh form; the later family's looks); each row that meets fmt, with fmt's text TOLD by the authors' own Lean function (tested against real Go, not proved from fmt's source: count such statements apart). THE CARD IS WHAT COUNTS. Prove the row's statement (the work); the ties are given (YtbibhpbmpnennaaDoorTie.lean); close each card by the builder's one call (the guide's Derived/Test/ToyasCard.lean, 'card_holds'). Laid BY PROGRAM, IN A SANDBOX (cutbox-door.mjs). By AI agents, Wed Nov 11 2026. No macro, syntax, notation, axiom, sorry.
-/
import Derived.Test.YtbibhpbmpnennaaDoorRows
import GoSem.ClaimSeven
namespace Go.Proofs.YtbibhpbmpnennaaDoor
namespace Rows

/-- THE TIED CARD OF 'muslinlaw17.ScanParts'. -/
def scanPartsCard : Claim7 := { stood := { row := scanPartsRow, standIns := [], harness := (true, "4bd4fe96b10ae80a9589d17ea2e8b476628390b6a973c09f2362cecd7cfc5ab9"), looks := true }, kinds := [], alts := [], laidByText := true, laidKinds := [.listed, .data], laidTests := true, laidLooks := .later }
def ScanPartsCardSaid : Prop := Claim7.holds Tryd.pinned (.plain (OpenSpec.ofChange scanPartsSpec)) scanPartsCard

/-- THE TIED CARD OF 'muslinlaw17.ScanEnds'. -/
def scanEndsCard : Claim7 := { stood := { row := scanEndsRow, standIns := [], harness := (true, "4bd4fe96b10ae80a9589d17ea2e8b476628390b6a973c09f2362cecd7cfc5ab9"), looks := true }, kinds := [], alts := [], laidByText := true, laidKinds := [.listed, .data], laidTests := true, laidLooks := .later }
def ScanEndsCardSaid : Prop := Claim7.holds Tryd.pinned (.plain (OpenSpec.ofChange scanEndsSpec)) scanEndsCard

/-- THE SECOND FORM's CARD OF 'muslinlaw17.ScanParts'. -/
def scanPartsUptoCard : Claim7 := { stood := { row := scanPartsUptoRow, standIns := [], harness := (true, "4bd4fe96b10ae80a9589d17ea2e8b476628390b6a973c09f2362cecd7cfc5ab9"), looks := true }, kinds := [], alts := [], laidByText := true, laidKinds := [.listed, .data], laidTests := true, laidLooks := .later }
def ScanPartsUptoCardSaid : Prop := Claim7.holds Tryd.pinned (.plain (OpenSpec.upto scanPartsSpec)) scanPartsUptoCard

/-- THE SECOND FORM's CARD OF 'muslinlaw17.ScanEnds'. -/
def scanEndsUptoCard : Claim7 := { stood := { row := scanEndsUptoRow, standIns := [], harness := (true, "4bd4fe96b10ae80a9589d17ea2e8b476628390b6a973c09f2362cecd7cfc5ab9"), looks := true }, kinds := [], alts := [], laidByText := true, laidKinds := [.listed, .data], laidTests := true, laidLooks := .later }
def ScanEndsUptoCardSaid : Prop := Claim7.holds Tryd.pinned (.plain (OpenSpec.upto scanEndsSpec)) scanEndsUptoCard
end Rows
end Go.Proofs.YtbibhpbmpnennaaDoor
