/-
  DERIVED. GIVEN WITH THE SEED: THE CARDS: each row of YtfepcpcnfibbnaaDoorRows.lean that lists a variable, with what it lists TIED to the program's text (the seventh form; the later family's looks); each row that meets fmt, with fmt's text TOLD by the authors' own Lean function (tested against real Go, not proved from fmt's source: count such statements apart). THE CARD IS WHAT COUNTS. Prove the row's statement (the work); the ties are given (YtfepcpcnfibbnaaDoorTie.lean); close each card by the builder's one call (the guide's Derived/Test/ToyasCard.lean, 'card_holds'). Laid BY PROGRAM, IN A SANDBOX (cutbox-door.mjs). By AI agents, Wed Nov 11 2026. No macro, syntax, notation, axiom, sorry.
-/
import Derived.Test.YtfepcpcnfibbnaaDoorRows
import GoSem.ClaimSeven
namespace Go.Proofs.YtfepcpcnfibbnaaDoor
namespace Rows

/-- THE TIED CARD OF 'muslinlaw19.PipesOwn'. -/
def pipesOwnCard : Claim7 := { stood := { row := pipesOwnRow, standIns := [], harness := (true, "598379cd1907b51a62a9f6d68bc5599f959325e63466ef139f29add7003f711d"), looks := true }, kinds := [], alts := [], laidByText := true, laidKinds := [.data, .pinned], laidTests := true, laidLooks := .later }
def PipesOwnCardSaid : Prop := Claim7.holds Tryd.pinned (.plain (OpenSpec.ofChange pipesOwnSpec)) pipesOwnCard

/-- THE TIED CARD OF 'muslinlaw19.PipesMay'. -/
def pipesMayCard : Claim7 := { stood := { row := pipesMayRow, standIns := [], harness := (true, "598379cd1907b51a62a9f6d68bc5599f959325e63466ef139f29add7003f711d"), looks := true }, kinds := [], alts := [], laidByText := true, laidKinds := [.data, .pinned], laidTests := true, laidLooks := .later }
def PipesMayCardSaid : Prop := Claim7.holds Tryd.pinned (.plain (OpenSpec.ofChange pipesMaySpec)) pipesMayCard

/-- THE TIED CARD OF 'muslinlaw23.FiltersSafe'. -/
def filtersSafeCard : Claim7 := { stood := { row := filtersSafeRow, standIns := [], harness := (true, "598379cd1907b51a62a9f6d68bc5599f959325e63466ef139f29add7003f711d"), looks := true }, kinds := [], alts := [], laidByText := true, laidKinds := [.data, .pinned], laidTests := true, laidLooks := .later }
def FiltersSafeCardSaid : Prop := Claim7.holds Tryd.pinned (.plain (OpenSpec.ofChange filtersSafeSpec)) filtersSafeCard

/-- THE TIED CARD OF 'muslinlaw23.FiltersQuiet'. -/
def filtersQuietCard : Claim7 := { stood := { row := filtersQuietRow, standIns := [], harness := (true, "598379cd1907b51a62a9f6d68bc5599f959325e63466ef139f29add7003f711d"), looks := true }, kinds := [], alts := [], laidByText := true, laidKinds := [.data, .pinned], laidTests := true, laidLooks := .later }
def FiltersQuietCardSaid : Prop := Claim7.holds Tryd.pinned (.plain (OpenSpec.ofChange filtersQuietSpec)) filtersQuietCard

/-- THE TIED CARD OF 'muslinlaw19.PipesBack'. -/
def pipesBackCard : Claim7 := { stood := { row := pipesBackRow, standIns := [], harness := (true, "598379cd1907b51a62a9f6d68bc5599f959325e63466ef139f29add7003f711d"), looks := true }, kinds := [], alts := [], laidByText := true, laidKinds := [.data, .pinned], laidTests := true, laidLooks := .later }
def PipesBackCardSaid : Prop := Claim7.holds Tryd.pinned (.plain (OpenSpec.ofChange pipesBackSpec)) pipesBackCard

/-- THE TIED CARD OF 'muslinlaw18.LexQuotes'. -/
def lexQuotesCard : Claim7 := { stood := { row := lexQuotesRow, standIns := [], harness := (true, "598379cd1907b51a62a9f6d68bc5599f959325e63466ef139f29add7003f711d"), looks := true }, kinds := [], alts := [], laidByText := true, laidKinds := [.data, .pinned], laidTests := true, laidLooks := .later }
def LexQuotesCardSaid : Prop := Claim7.holds Tryd.pinned (.plain (OpenSpec.ofChange lexQuotesSpec)) lexQuotesCard

/-- THE TIED CARD OF 'muslinlaw35.FaithStops'. -/
def faithStopsCard : Claim7 := { stood := { row := faithStopsRow, standIns := [], harness := (true, "598379cd1907b51a62a9f6d68bc5599f959325e63466ef139f29add7003f711d"), looks := true }, kinds := [], alts := [], laidByText := true, laidKinds := [.data, .pinned], laidTests := true, laidLooks := .later }
def FaithStopsCardSaid : Prop := Claim7.holds Tryd.pinned (.plain (OpenSpec.ofChange faithStopsSpec)) faithStopsCard

/-- THE SECOND FORM's CARD OF 'muslinlaw19.PipesOwn'. -/
def pipesOwnUptoCard : Claim7 := { stood := { row := pipesOwnUptoRow, standIns := [], harness := (true, "598379cd1907b51a62a9f6d68bc5599f959325e63466ef139f29add7003f711d"), looks := true }, kinds := [], alts := [], laidByText := true, laidKinds := [.data, .pinned], laidTests := true, laidLooks := .later }
def PipesOwnUptoCardSaid : Prop := Claim7.holds Tryd.pinned (.plain (OpenSpec.upto pipesOwnSpec)) pipesOwnUptoCard

/-- THE SECOND FORM's CARD OF 'muslinlaw19.PipesMay'. -/
def pipesMayUptoCard : Claim7 := { stood := { row := pipesMayUptoRow, standIns := [], harness := (true, "598379cd1907b51a62a9f6d68bc5599f959325e63466ef139f29add7003f711d"), looks := true }, kinds := [], alts := [], laidByText := true, laidKinds := [.data, .pinned], laidTests := true, laidLooks := .later }
def PipesMayUptoCardSaid : Prop := Claim7.holds Tryd.pinned (.plain (OpenSpec.upto pipesMaySpec)) pipesMayUptoCard

/-- THE SECOND FORM's CARD OF 'muslinlaw23.FiltersSafe'. -/
def filtersSafeUptoCard : Claim7 := { stood := { row := filtersSafeUptoRow, standIns := [], harness := (true, "598379cd1907b51a62a9f6d68bc5599f959325e63466ef139f29add7003f711d"), looks := true }, kinds := [], alts := [], laidByText := true, laidKinds := [.data, .pinned], laidTests := true, laidLooks := .later }
def FiltersSafeUptoCardSaid : Prop := Claim7.holds Tryd.pinned (.plain (OpenSpec.upto filtersSafeSpec)) filtersSafeUptoCard

/-- THE SECOND FORM's CARD OF 'muslinlaw23.FiltersQuiet'. -/
def filtersQuietUptoCard : Claim7 := { stood := { row := filtersQuietUptoRow, standIns := [], harness := (true, "598379cd1907b51a62a9f6d68bc5599f959325e63466ef139f29add7003f711d"), looks := true }, kinds := [], alts := [], laidByText := true, laidKinds := [.data, .pinned], laidTests := true, laidLooks := .later }
def FiltersQuietUptoCardSaid : Prop := Claim7.holds Tryd.pinned (.plain (OpenSpec.upto filtersQuietSpec)) filtersQuietUptoCard

/-- THE SECOND FORM's CARD OF 'muslinlaw19.PipesBack'. -/
def pipesBackUptoCard : Claim7 := { stood := { row := pipesBackUptoRow, standIns := [], harness := (true, "598379cd1907b51a62a9f6d68bc5599f959325e63466ef139f29add7003f711d"), looks := true }, kinds := [], alts := [], laidByText := true, laidKinds := [.data, .pinned], laidTests := true, laidLooks := .later }
def PipesBackUptoCardSaid : Prop := Claim7.holds Tryd.pinned (.plain (OpenSpec.upto pipesBackSpec)) pipesBackUptoCard

/-- THE SECOND FORM's CARD OF 'muslinlaw18.LexQuotes'. -/
def lexQuotesUptoCard : Claim7 := { stood := { row := lexQuotesUptoRow, standIns := [], harness := (true, "598379cd1907b51a62a9f6d68bc5599f959325e63466ef139f29add7003f711d"), looks := true }, kinds := [], alts := [], laidByText := true, laidKinds := [.data, .pinned], laidTests := true, laidLooks := .later }
def LexQuotesUptoCardSaid : Prop := Claim7.holds Tryd.pinned (.plain (OpenSpec.upto lexQuotesSpec)) lexQuotesUptoCard

/-- THE SECOND FORM's CARD OF 'muslinlaw35.FaithStops'. -/
def faithStopsUptoCard : Claim7 := { stood := { row := faithStopsUptoRow, standIns := [], harness := (true, "598379cd1907b51a62a9f6d68bc5599f959325e63466ef139f29add7003f711d"), looks := true }, kinds := [], alts := [], laidByText := true, laidKinds := [.data, .pinned], laidTests := true, laidLooks := .later }
def FaithStopsUptoCardSaid : Prop := Claim7.holds Tryd.pinned (.plain (OpenSpec.upto faithStopsSpec)) faithStopsUptoCard
end Rows
end Go.Proofs.YtfepcpcnfibbnaaDoor
