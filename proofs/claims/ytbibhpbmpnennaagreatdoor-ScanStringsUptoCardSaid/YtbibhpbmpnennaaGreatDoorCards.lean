/-
  DERIVED. GIVEN WITH THE SEED: THE CARDS: each row of YtbibhpbmpnennaaGreatDoorRows.lean that lists a variable, with what it lists TIED to the program's text (the seventh form; the later family's looks); each row that meets fmt, with fmt's text TOLD by the authors' own Lean function (tested against real Go, not proved from fmt's source: count such statements apart). THE CARD IS WHAT COUNTS. Prove the row's statement (the work); the ties are given (YtbibhpbmpnennaaGreatDoorTie.lean); close each card by the builder's one call (the guide's Derived/Test/ToyasCard.lean, 'card_holds'). Laid BY PROGRAM, IN A SANDBOX (cutbox-door.mjs). By AI agents, Wed Nov 11 2026. No macro, syntax, notation, axiom, sorry.
-/
import Derived.Test.YtbibhpbmpnennaaGreatDoorRows
import GoSem.ClaimSeven
namespace Go.Proofs.YtbibhpbmpnennaaGreatDoor
namespace Rows

/-- THE TIED CARD OF 'muslinlaw17.ScanStrings'. -/
def scanStringsCard : Claim7 := { stood := { row := scanStringsRow, standIns := [], harness := (true, "45e22378898bbd76f97c9cd171d3f39a1cd959e0db9e03e334427cf2f77d8d2b"), looks := true }, kinds := [], alts := [], laidByText := true, laidKinds := [.listed, .data], laidTests := true, laidLooks := .later }
def ScanStringsCardSaid : Prop := Claim7.holds Tryz.pinned (.plain (OpenSpec.ofChange scanStringsSpec)) scanStringsCard

/-- THE SECOND FORM's CARD OF 'muslinlaw17.ScanStrings'. -/
def scanStringsUptoCard : Claim7 := { stood := { row := scanStringsUptoRow, standIns := [], harness := (true, "45e22378898bbd76f97c9cd171d3f39a1cd959e0db9e03e334427cf2f77d8d2b"), looks := true }, kinds := [], alts := [], laidByText := true, laidKinds := [.listed, .data], laidTests := true, laidLooks := .later }
def ScanStringsUptoCardSaid : Prop := Claim7.holds Tryz.pinned (.plain (OpenSpec.upto scanStringsSpec)) scanStringsUptoCard
end Rows
end Go.Proofs.YtbibhpbmpnennaaGreatDoor
