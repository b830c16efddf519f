/-
  DERIVED. GIVEN WITH THE SEED: THE CARDS: each row of YtlobblkhninckaaGreatDoorRows.lean that lists a variable, with what it lists TIED to the program's text (the seventh form; the later family's looks); each row that meets fmt, with fmt's text TOLD by the authors' own Lean function (tested against real Go, not proved from fmt's source: count such statements apart). THE CARD IS WHAT COUNTS. Prove the row's statement (the work); the ties are given (YtlobblkhninckaaGreatDoorTie.lean); close each card by the builder's one call (the guide's Derived/Test/ToyasCard.lean, 'card_holds'). Laid BY PROGRAM, IN A SANDBOX (cutbox-door.mjs). By AI agents, Wed Nov 11 2026. No macro, syntax, notation, axiom, sorry.
-/
import Derived.Test.YtlobblkhninckaaGreatDoorRows
import GoSem.ClaimSeven
namespace Go.Proofs.YtlobblkhninckaaGreatDoor
namespace Rows

/-- THE TIED CARD OF 'muslinlaw23.FiltersLeads'. -/
def filtersLeadsCard : Claim7 := { stood := { row := filtersLeadsRow, standIns := [], harness := (true, "6da11a055b616b68f8a9be4f064bdb5333e6a7a5df681e8a04c88ec2b7a613b8"), looks := true }, kinds := [], alts := [], laidByText := true, laidKinds := [.data, .listed, .data, .pinned], laidTests := true, laidLooks := .later }
def FiltersLeadsCardSaid : Prop := Claim7.holds Tryz.pinned (.plain (OpenSpec.ofChange filtersLeadsSpec)) filtersLeadsCard

/-- THE SECOND FORM's CARD OF 'muslinlaw23.FiltersLeads'. -/
def filtersLeadsUptoCard : Claim7 := { stood := { row := filtersLeadsUptoRow, standIns := [], harness := (true, "6da11a055b616b68f8a9be4f064bdb5333e6a7a5df681e8a04c88ec2b7a613b8"), looks := true }, kinds := [], alts := [], laidByText := true, laidKinds := [.data, .listed, .data, .pinned], laidTests := true, laidLooks := .later }
def FiltersLeadsUptoCardSaid : Prop := Claim7.holds Tryz.pinned (.plain (OpenSpec.upto filtersLeadsSpec)) filtersLeadsUptoCard
end Rows
end Go.Proofs.YtlobblkhninckaaGreatDoor
