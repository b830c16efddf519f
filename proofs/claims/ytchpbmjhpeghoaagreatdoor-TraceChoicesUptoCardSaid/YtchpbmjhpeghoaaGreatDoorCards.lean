/-
  DERIVED. GIVEN WITH THE SEED: THE CARDS: each row of YtchpbmjhpeghoaaGreatDoorRows.lean that lists a variable, with what it lists TIED to the program's text (the seventh form; the later family's looks); each row that meets fmt, with fmt's text TOLD by the authors' own Lean function (tested against real Go, not proved from fmt's source: count such statements apart). THE CARD IS WHAT COUNTS. Prove the row's statement (the work); the ties are given (YtchpbmjhpeghoaaGreatDoorTie.lean); close each card by the builder's one call (the guide's Derived/Test/ToyasCard.lean, 'card_holds'). Laid BY PROGRAM, IN A SANDBOX (cutbox-door.mjs). By AI agents, Wed Nov 11 2026. No macro, syntax, notation, axiom, sorry.
-/
import Derived.Test.YtchpbmjhpeghoaaGreatDoorRows
import GoSem.ClaimSeven
namespace Go.Proofs.YtchpbmjhpeghoaaGreatDoor
namespace Rows

/-- THE TIED CARD OF 'muslinlaw31.TracePrints'. -/
def tracePrintsCard : Claim7 := { stood := { row := tracePrintsRow, standIns := [], harness := (true, "830be1860e07f44c08225790d60fa562f821691be9acbad9c44620d34d67c86c"), looks := true }, kinds := [], alts := [], laidByText := true, laidKinds := [.data, .listed, .data, .pinned], laidTests := true, laidLooks := .later }
def TracePrintsCardSaid : Prop := Claim7.holds Tryz.pinned (.plain (OpenSpec.ofChange tracePrintsSpec)) tracePrintsCard

/-- THE TIED CARD OF 'muslinlaw31.TraceChoices'. -/
def traceChoicesCard : Claim7 := { stood := { row := traceChoicesRow, standIns := [], harness := (true, "830be1860e07f44c08225790d60fa562f821691be9acbad9c44620d34d67c86c"), looks := true }, kinds := [], alts := [], laidByText := true, laidKinds := [.data, .listed, .data, .pinned], laidTests := true, laidLooks := .later }
def TraceChoicesCardSaid : Prop := Claim7.holds Tryz.pinned (.plain (OpenSpec.ofChange traceChoicesSpec)) traceChoicesCard

/-- THE TIED CARD OF 'muslinlaw36.DriverFaults'. -/
def driverFaultsCard : Claim7 := { stood := { row := driverFaultsRow, standIns := [], harness := (true, "830be1860e07f44c08225790d60fa562f821691be9acbad9c44620d34d67c86c"), looks := true }, kinds := [], alts := [], laidByText := true, laidKinds := [.data, .listed, .data, .pinned], laidTests := true, laidLooks := .later }
def DriverFaultsCardSaid : Prop := Claim7.holds Tryz.pinned (.plain (OpenSpec.ofChange driverFaultsSpec)) driverFaultsCard

/-- THE SECOND FORM's CARD OF 'muslinlaw31.TracePrints'. -/
def tracePrintsUptoCard : Claim7 := { stood := { row := tracePrintsUptoRow, standIns := [], harness := (true, "830be1860e07f44c08225790d60fa562f821691be9acbad9c44620d34d67c86c"), looks := true }, kinds := [], alts := [], laidByText := true, laidKinds := [.data, .listed, .data, .pinned], laidTests := true, laidLooks := .later }
def TracePrintsUptoCardSaid : Prop := Claim7.holds Tryz.pinned (.plain (OpenSpec.upto tracePrintsSpec)) tracePrintsUptoCard

/-- THE SECOND FORM's CARD OF 'muslinlaw31.TraceChoices'. -/
def traceChoicesUptoCard : Claim7 := { stood := { row := traceChoicesUptoRow, standIns := [], harness := (true, "830be1860e07f44c08225790d60fa562f821691be9acbad9c44620d34d67c86c"), looks := true }, kinds := [], alts := [], laidByText := true, laidKinds := [.data, .listed, .data, .pinned], laidTests := true, laidLooks := .later }
def TraceChoicesUptoCardSaid : Prop := Claim7.holds Tryz.pinned (.plain (OpenSpec.upto traceChoicesSpec)) traceChoicesUptoCard

/-- THE SECOND FORM's CARD OF 'muslinlaw36.DriverFaults'. -/
def driverFaultsUptoCard : Claim7 := { stood := { row := driverFaultsUptoRow, standIns := [], harness := (true, "830be1860e07f44c08225790d60fa562f821691be9acbad9c44620d34d67c86c"), looks := true }, kinds := [], alts := [], laidByText := true, laidKinds := [.data, .listed, .data, .pinned], laidTests := true, laidLooks := .later }
def DriverFaultsUptoCardSaid : Prop := Claim7.holds Tryz.pinned (.plain (OpenSpec.upto driverFaultsSpec)) driverFaultsUptoCard
end Rows
end Go.Proofs.YtchpbmjhpeghoaaGreatDoor
