/-
  DERIVED. GIVEN WITH THE SEED: THE CARDS: each row of YthbdcgfaklnelaaGreatDoorRows.lean that lists a variable, with what it lists TIED to the program's text (the seventh form; the later family's looks); each row that meets fmt, with fmt's text TOLD by the authors' own Lean function (tested against real Go, not proved from fmt's source: count such statements apart). THE CARD IS WHAT COUNTS. Prove the row's statement (the work); the ties are given (YthbdcgfaklnelaaGreatDoorTie.lean); close each card by the builder's one call (the guide's Derived/Test/ToyasCard.lean, 'card_holds'). Laid BY PROGRAM, IN A SANDBOX (cutbox-door.mjs). By AI agents, Wed Nov 11 2026. No macro, syntax, notation, axiom, sorry.
-/
import Derived.Test.YthbdcgfaklnelaaGreatDoorRows
import GoSem.ClaimSeven
namespace Go.Proofs.YthbdcgfaklnelaaGreatDoor
namespace Rows

/-- THE TIED CARD OF 'muslinlaw35.FaithBack'. -/
def faithBackCard : Claim7 := { stood := { row := faithBackRow, standIns := [], harness := (true, "fefff9e675806fc496607ef0fc7ae3b7c5b372bcc1a5c4b3abeaa7b98e9b4ca7"), looks := true }, kinds := [], alts := [], laidByText := true, laidKinds := [.data, .pinned], laidTests := true, laidLooks := .later }
def FaithBackCardSaid : Prop := Claim7.holds Tryz.pinned (.plain (OpenSpec.ofChange faithBackSpec)) faithBackCard

/-- THE TIED CARD OF 'muslinlaw35.FaithContained'. -/
def faithContainedCard : Claim7 := { stood := { row := faithContainedRow, standIns := [], harness := (true, "fefff9e675806fc496607ef0fc7ae3b7c5b372bcc1a5c4b3abeaa7b98e9b4ca7"), looks := true }, kinds := [], alts := [], laidByText := true, laidKinds := [.data, .pinned], laidTests := true, laidLooks := .later }
def FaithContainedCardSaid : Prop := Claim7.holds Tryz.pinned (.plain (OpenSpec.ofChange faithContainedSpec)) faithContainedCard

/-- THE TIED CARD OF 'muslinlaw35.FaithRaw'. -/
def faithRawCard : Claim7 := { stood := { row := faithRawRow, standIns := [], harness := (true, "fefff9e675806fc496607ef0fc7ae3b7c5b372bcc1a5c4b3abeaa7b98e9b4ca7"), looks := true }, kinds := [], alts := [], laidByText := true, laidKinds := [.data, .pinned], laidTests := true, laidLooks := .later }
def FaithRawCardSaid : Prop := Claim7.holds Tryz.pinned (.plain (OpenSpec.ofChange faithRawSpec)) faithRawCard

/-- THE SECOND FORM's CARD OF 'muslinlaw35.FaithBack'. -/
def faithBackUptoCard : Claim7 := { stood := { row := faithBackUptoRow, standIns := [], harness := (true, "fefff9e675806fc496607ef0fc7ae3b7c5b372bcc1a5c4b3abeaa7b98e9b4ca7"), looks := true }, kinds := [], alts := [], laidByText := true, laidKinds := [.data, .pinned], laidTests := true, laidLooks := .later }
def FaithBackUptoCardSaid : Prop := Claim7.holds Tryz.pinned (.plain (OpenSpec.upto faithBackSpec)) faithBackUptoCard

/-- THE SECOND FORM's CARD OF 'muslinlaw35.FaithContained'. -/
def faithContainedUptoCard : Claim7 := { stood := { row := faithContainedUptoRow, standIns := [], harness := (true, "fefff9e675806fc496607ef0fc7ae3b7c5b372bcc1a5c4b3abeaa7b98e9b4ca7"), looks := true }, kinds := [], alts := [], laidByText := true, laidKinds := [.data, .pinned], laidTests := true, laidLooks := .later }
def FaithContainedUptoCardSaid : Prop := Claim7.holds Tryz.pinned (.plain (OpenSpec.upto faithContainedSpec)) faithContainedUptoCard

/-- THE SECOND FORM's CARD OF 'muslinlaw35.FaithRaw'. -/
def faithRawUptoCard : Claim7 := { stood := { row := faithRawUptoRow, standIns := [], harness := (true, "fefff9e675806fc496607ef0fc7ae3b7c5b372bcc1a5c4b3abeaa7b98e9b4ca7"), looks := true }, kinds := [], alts := [], laidByText := true, laidKinds := [.data, .pinned], laidTests := true, laidLooks := .later }
def FaithRawUptoCardSaid : Prop := Claim7.holds Tryz.pinned (.plain (OpenSpec.upto faithRawSpec)) faithRawUptoCard
end Rows
end Go.Proofs.YthbdcgfaklnelaaGreatDoor
