/-
  DERIVED. GIVEN WITH THE SEED: THE CARDS: each row of YtlbmedmddoljnaaDoorRows.lean that lists a variable, with what it lists TIED to the program's text (the seventh form; the later family's looks); each row that meets fmt, with fmt's text TOLD by the authors' own Lean function (tested against real Go, not proved from fmt's source: count such statements apart). THE CARD IS WHAT COUNTS. Prove the row's statement (the work); the ties are given (YtlbmedmddoljnaaDoorTie.lean); close each card by the builder's one call (the guide's Derived/Test/ToyasCard.lean, 'card_holds'). Laid BY PROGRAM, IN A SANDBOX (cutbox-door.mjs). By AI agents, Wed Nov 11 2026. No macro, syntax, notation, axiom, sorry.
-/
import Derived.Test.YtlbmedmddoljnaaDoorRows
import GoSem.ClaimSeven
namespace Go.Proofs.YtlbmedmddoljnaaDoor
namespace Rows

/-- THE TIED CARD OF 'muslinlaw18.LexTexts'. -/
def lexTextsCard : Claim7 := { stood := { row := lexTextsRow, standIns := [], harness := (true, "13371d5091c4e9892893e39517cc0f29bb2273f2e5093babcfa67d52baef1913"), looks := true }, kinds := [], alts := [], laidByText := true, laidKinds := [.data, .pinned], laidTests := true, laidLooks := .later }
def LexTextsCardSaid : Prop := Claim7.holds Tryd.pinned (.plain (OpenSpec.ofChange lexTextsSpec)) lexTextsCard

/-- THE TIED CARD OF 'muslinlaw18.LexTrims'. -/
def lexTrimsCard : Claim7 := { stood := { row := lexTrimsRow, standIns := [], harness := (true, "13371d5091c4e9892893e39517cc0f29bb2273f2e5093babcfa67d52baef1913"), looks := true }, kinds := [], alts := [], laidByText := true, laidKinds := [.data, .pinned], laidTests := true, laidLooks := .later }
def LexTrimsCardSaid : Prop := Claim7.holds Tryd.pinned (.plain (OpenSpec.ofChange lexTrimsSpec)) lexTrimsCard

/-- THE TIED CARD OF 'muslinlaw18.LexRemarks'. -/
def lexRemarksCard : Claim7 := { stood := { row := lexRemarksRow, standIns := [], harness := (true, "13371d5091c4e9892893e39517cc0f29bb2273f2e5093babcfa67d52baef1913"), looks := true }, kinds := [], alts := [], laidByText := true, laidKinds := [.data, .pinned], laidTests := true, laidLooks := .later }
def LexRemarksCardSaid : Prop := Claim7.holds Tryd.pinned (.plain (OpenSpec.ofChange lexRemarksSpec)) lexRemarksCard

/-- THE TIED CARD OF 'muslinlaw19.PipesOwn'. -/
def pipesOwnCard : Claim7 := { stood := { row := pipesOwnRow, standIns := [], harness := (true, "13371d5091c4e9892893e39517cc0f29bb2273f2e5093babcfa67d52baef1913"), looks := true }, kinds := [], alts := [], laidByText := true, laidKinds := [.data, .pinned], laidTests := true, laidLooks := .later }
def PipesOwnCardSaid : Prop := Claim7.holds Tryd.pinned (.plain (OpenSpec.ofChange pipesOwnSpec)) pipesOwnCard

/-- THE TIED CARD OF 'muslinlaw19.PipesCheck'. -/
def pipesCheckCard : Claim7 := { stood := { row := pipesCheckRow, standIns := [], harness := (true, "13371d5091c4e9892893e39517cc0f29bb2273f2e5093babcfa67d52baef1913"), looks := true }, kinds := [], alts := [], laidByText := true, laidKinds := [.data, .pinned], laidTests := true, laidLooks := .later }
def PipesCheckCardSaid : Prop := Claim7.holds Tryd.pinned (.plain (OpenSpec.ofChange pipesCheckSpec)) pipesCheckCard

/-- THE TIED CARD OF 'muslinlaw19.PipesMay'. -/
def pipesMayCard : Claim7 := { stood := { row := pipesMayRow, standIns := [], harness := (true, "13371d5091c4e9892893e39517cc0f29bb2273f2e5093babcfa67d52baef1913"), looks := true }, kinds := [], alts := [], laidByText := true, laidKinds := [.data, .pinned], laidTests := true, laidLooks := .later }
def PipesMayCardSaid : Prop := Claim7.holds Tryd.pinned (.plain (OpenSpec.ofChange pipesMaySpec)) pipesMayCard

/-- THE SECOND FORM's CARD OF 'muslinlaw18.LexTexts'. -/
def lexTextsUptoCard : Claim7 := { stood := { row := lexTextsUptoRow, standIns := [], harness := (true, "13371d5091c4e9892893e39517cc0f29bb2273f2e5093babcfa67d52baef1913"), looks := true }, kinds := [], alts := [], laidByText := true, laidKinds := [.data, .pinned], laidTests := true, laidLooks := .later }
def LexTextsUptoCardSaid : Prop := Claim7.holds Tryd.pinned (.plain (OpenSpec.upto lexTextsSpec)) lexTextsUptoCard

/-- THE SECOND FORM's CARD OF 'muslinlaw18.LexTrims'. -/
def lexTrimsUptoCard : Claim7 := { stood := { row := lexTrimsUptoRow, standIns := [], harness := (true, "13371d5091c4e9892893e39517cc0f29bb2273f2e5093babcfa67d52baef1913"), looks := true }, kinds := [], alts := [], laidByText := true, laidKinds := [.data, .pinned], laidTests := true, laidLooks := .later }
def LexTrimsUptoCardSaid : Prop := Claim7.holds Tryd.pinned (.plain (OpenSpec.upto lexTrimsSpec)) lexTrimsUptoCard

/-- THE SECOND FORM's CARD OF 'muslinlaw18.LexRemarks'. -/
def lexRemarksUptoCard : Claim7 := { stood := { row := lexRemarksUptoRow, standIns := [], harness := (true, "13371d5091c4e9892893e39517cc0f29bb2273f2e5093babcfa67d52baef1913"), looks := true }, kinds := [], alts := [], laidByText := true, laidKinds := [.data, .pinned], laidTests := true, laidLooks := .later }
def LexRemarksUptoCardSaid : Prop := Claim7.holds Tryd.pinned (.plain (OpenSpec.upto lexRemarksSpec)) lexRemarksUptoCard

/-- THE SECOND FORM's CARD OF 'muslinlaw19.PipesOwn'. -/
def pipesOwnUptoCard : Claim7 := { stood := { row := pipesOwnUptoRow, standIns := [], harness := (true, "13371d5091c4e9892893e39517cc0f29bb2273f2e5093babcfa67d52baef1913"), looks := true }, kinds := [], alts := [], laidByText := true, laidKinds := [.data, .pinned], laidTests := true, laidLooks := .later }
def PipesOwnUptoCardSaid : Prop := Claim7.holds Tryd.pinned (.plain (OpenSpec.upto pipesOwnSpec)) pipesOwnUptoCard

/-- THE SECOND FORM's CARD OF 'muslinlaw19.PipesCheck'. -/
def pipesCheckUptoCard : Claim7 := { stood := { row := pipesCheckUptoRow, standIns := [], harness := (true, "13371d5091c4e9892893e39517cc0f29bb2273f2e5093babcfa67d52baef1913"), looks := true }, kinds := [], alts := [], laidByText := true, laidKinds := [.data, .pinned], laidTests := true, laidLooks := .later }
def PipesCheckUptoCardSaid : Prop := Claim7.holds Tryd.pinned (.plain (OpenSpec.upto pipesCheckSpec)) pipesCheckUptoCard

/-- THE SECOND FORM's CARD OF 'muslinlaw19.PipesMay'. -/
def pipesMayUptoCard : Claim7 := { stood := { row := pipesMayUptoRow, standIns := [], harness := (true, "13371d5091c4e9892893e39517cc0f29bb2273f2e5093babcfa67d52baef1913"), looks := true }, kinds := [], alts := [], laidByText := true, laidKinds := [.data, .pinned], laidTests := true, laidLooks := .later }
def PipesMayUptoCardSaid : Prop := Claim7.holds Tryd.pinned (.plain (OpenSpec.upto pipesMaySpec)) pipesMayUptoCard
end Rows
end Go.Proofs.YtlbmedmddoljnaaDoor
