/-
  NARROWER THAN 'FOR EVERY INPUT', by the rows' own cells (each row's printed sentence says how): CheckOwn: loops · CheckReaches: loops · CodeMay: loops.
  DERIVED. THE GIVEN ROWS OF THIS SEAT. 5 by the template 'for every input the law returns true; each argument reads behind the call as it read before'; 0 by the template 'total and deterministic' (their statements: YtlbmedmddoljnaaTotals.lean).
  GIVEN WITH THE SEED: the statements are not yours to turn. If you find one false, say at which input.
  Laid BY PROGRAM, IN A SANDBOX (cutbox-rows.mjs): the forced cells as the released guide's own fill.sh prints them over the translation 4a48dcb3809eb4b0… (all of the seat's roots in one cut). By AI agents, Wed Nov 11 2026. No macro, syntax, notation, axiom, sorry.
-/
import Derived.Test.YtlbmedmddoljnaaChecked
import GoSem.Claim
import GoSem.ClaimJoined
import GoSem.ClaimMapViews
import Derived.JoinedTies
import Derived.KernelRfl
namespace Go.Proofs.Ytlbmedmddoljnaa
/- THE CELL 'sum', in the pinned program and in every row, IS THE sha256 OF THE DUMP (.gsa) THAT YtlbmedmddoljnaaProg.lean LOADS. Nothing in Lean hashes anything: it is a label: what it is worth is what the hold of that sum in a sandbox is worth. -/
noncomputable def Try.pinned : Pinned := { name := "ytlbmedmddoljnaa", sum := "4a48dcb3809eb4b0b9381064d349359b66fd33b12dbd44f7bda720292cb87c85", checked := Try.checked }
namespace Rows
def none {H : Type} : Left H := { results := [], args := [] }

/-- 'muslinlaw22.CheckTexts': WHATEVER THE INPUT: true; the input reads as it did. -/
def checkTextsSpec : ChangeSpec := { name := "checkTexts", fn := fun _ => fun
  | [d] => { results := [.lit (.bool true)], args := [d] }
  | _ => none }
def checkTextsRow : OpenClaim := { program := "ytlbmedmddoljnaa", sum := "4a48dcb3809eb4b0b9381064d349359b66fd33b12dbd44f7bda720292cb87c85", func := "muslin/muslinlaw22.CheckTexts", spec := "checkTexts", unfollowed := true, recurses := true, apart := false }
def CheckTextsSaid : Prop := checkTextsRow.holds Try.pinned (OpenSpec.ofChange checkTextsSpec)

/-- ITS FALSE NEIGHBOUR: 'it returns false'. Refute it at one input. -/
def checkTextsWrong : ChangeSpec := { name := "checkTexts", fn := fun _ => fun
  | [d] => { results := [.lit (.bool false)], args := [d] }
  | _ => none }
def CheckTextsWrongFalsely : Prop := checkTextsRow.holds Try.pinned (OpenSpec.ofChange checkTextsWrong)

/-- 'muslinlaw22.CheckOwn': WHATEVER THE INPUT: true; the input reads as it did. -/
def checkOwnSpec : ChangeSpec := { name := "checkOwn", fn := fun _ => fun
  | [d] => { results := [.lit (.bool true)], args := [d] }
  | _ => none }
def checkOwnRow : OpenClaim := { program := "ytlbmedmddoljnaa", sum := "4a48dcb3809eb4b0b9381064d349359b66fd33b12dbd44f7bda720292cb87c85", func := "muslin/muslinlaw22.CheckOwn", spec := "checkOwn", unfollowed := true, recurses := true, loops := true, apart := false }
def CheckOwnSaid : Prop := checkOwnRow.holds Try.pinned (OpenSpec.ofChange checkOwnSpec)

/-- ITS FALSE NEIGHBOUR: 'it returns false'. Refute it at one input. -/
def checkOwnWrong : ChangeSpec := { name := "checkOwn", fn := fun _ => fun
  | [d] => { results := [.lit (.bool false)], args := [d] }
  | _ => none }
def CheckOwnWrongFalsely : Prop := checkOwnRow.holds Try.pinned (OpenSpec.ofChange checkOwnWrong)

/-- 'muslinlaw22.CheckReaches': WHATEVER THE INPUT: true; the input reads as it did. -/
def checkReachesSpec : ChangeSpec := { name := "checkReaches", fn := fun _ => fun
  | [d1, d2] => { results := [.lit (.bool true)], args := [d1, d2] }
  | _ => none }
def checkReachesRow : OpenClaim := { program := "ytlbmedmddoljnaa", sum := "4a48dcb3809eb4b0b9381064d349359b66fd33b12dbd44f7bda720292cb87c85", func := "muslin/muslinlaw22.CheckReaches", spec := "checkReaches", unfollowed := true, recurses := true, loops := true, apart := false }
def CheckReachesSaid : Prop := checkReachesRow.holds Try.pinned (OpenSpec.ofChange checkReachesSpec)

/-- ITS FALSE NEIGHBOUR: 'it returns false'. Refute it at one input. -/
def checkReachesWrong : ChangeSpec := { name := "checkReaches", fn := fun _ => fun
  | [d1, d2] => { results := [.lit (.bool false)], args := [d1, d2] }
  | _ => none }
def CheckReachesWrongFalsely : Prop := checkReachesRow.holds Try.pinned (OpenSpec.ofChange checkReachesWrong)

/-- 'muslinlaw42.CodeMay': WHATEVER THE INPUT: true; the input reads as it did. -/
def codeMaySpec : ChangeSpec := { name := "codeMay", fn := fun _ => fun
  | [d] => { results := [.lit (.bool true)], args := [d] }
  | _ => none }
def codeMayRow : OpenClaim := { program := "ytlbmedmddoljnaa", sum := "4a48dcb3809eb4b0b9381064d349359b66fd33b12dbd44f7bda720292cb87c85", func := "muslin/muslinlaw42.CodeMay", spec := "codeMay", unfollowed := true, recurses := true, loops := true, apart := false }
def CodeMaySaid : Prop := codeMayRow.holds Try.pinned (OpenSpec.ofChange codeMaySpec)

/-- ITS FALSE NEIGHBOUR: 'it returns false'. Refute it at one input. -/
def codeMayWrong : ChangeSpec := { name := "codeMay", fn := fun _ => fun
  | [d] => { results := [.lit (.bool false)], args := [d] }
  | _ => none }
def CodeMayWrongFalsely : Prop := codeMayRow.holds Try.pinned (OpenSpec.ofChange codeMayWrong)

/-- 'muslinlaw42.CodeCheck': WHATEVER THE INPUT: true; the input reads as it did. -/
def codeCheckSpec : ChangeSpec := { name := "codeCheck", fn := fun _ => fun
  | [d1, d2] => { results := [.lit (.bool true)], args := [d1, d2] }
  | _ => none }
def codeCheckRow : OpenClaim := { program := "ytlbmedmddoljnaa", sum := "4a48dcb3809eb4b0b9381064d349359b66fd33b12dbd44f7bda720292cb87c85", func := "muslin/muslinlaw42.CodeCheck", spec := "codeCheck", unfollowed := true, recurses := true, apart := false }
def CodeCheckSaid : Prop := codeCheckRow.holds Try.pinned (OpenSpec.ofChange codeCheckSpec)

/-- ITS FALSE NEIGHBOUR: 'it returns false'. Refute it at one input. -/
def codeCheckWrong : ChangeSpec := { name := "codeCheck", fn := fun _ => fun
  | [d1, d2] => { results := [.lit (.bool false)], args := [d1, d2] }
  | _ => none }
def CodeCheckWrongFalsely : Prop := codeCheckRow.holds Try.pinned (OpenSpec.ofChange codeCheckWrong)

/- THE SECOND FORM. 'bulk': how many values and letters a reading holds, each counted each time it is reached (what is shared counts as often as it is met; a slice's spare places count too). A statement '..UptoSaid' is the law's where the arguments, and the package variables that the reading takes, are together of bulk at most 1048576: NARROWER than '..Said'. Prove '..Said' where nothing that the law and all that it calls make is longer than what came in: it says more and counts as full. Else prove '..UptoSaid'. A law counts once. -/
mutual
def uptoBulk {H : Type} : DataW H → Nat
  | .lit (.string bytes) => bytes.length + 1
  | .lit _ => 1
  | .nil => 1
  | .ptr d => uptoBulk d + 1
  | .slice elems spare => uptoBulkAll elems + uptoBulkAll spare + 1
  | .agg parts => uptoBulkAll parts + 1
  | .iface _ d => uptoBulk d + 1
  | .map entries => uptoBulkEntries entries + 1
  | .held _ => 1
def uptoBulkAll {H : Type} : List (DataW H) → Nat
  | [] => 0
  | d :: r => uptoBulk d + uptoBulkAll r
def uptoBulkEntries {H : Type} : List (Lit × DataW H) → Nat
  | [] => 0
  | x :: r => uptoBulkEntry x + uptoBulkEntries r
def uptoBulkEntry {H : Type} : Lit × DataW H → Nat
  | (.string bytes, d) => bytes.length + uptoBulk d + 1
  | (_, d) => uptoBulk d + 1
 end
def uptoSmall : (H : Type) → List (DataW H) → Bool := fun _ ds => decide (uptoBulkAll ds ≤ 1048576)
def OpenSpec.upto (s : _root_.Go.ChangeSpec) : _root_.Go.OpenSpec := { _root_.Go.OpenSpec.ofChange s with cond := some uptoSmall }

/-- 'muslinlaw22.CheckTexts', WHERE WHAT IT READS IS OF BULK AT MOST 1048576: true; the input reads as it did. -/
def checkTextsUptoRow : OpenClaim := { program := "ytlbmedmddoljnaa", sum := "4a48dcb3809eb4b0b9381064d349359b66fd33b12dbd44f7bda720292cb87c85", func := "muslin/muslinlaw22.CheckTexts", spec := "checkTexts", unfollowed := true, recurses := true, apart := false, narrowed := true }
def CheckTextsUptoSaid : Prop := checkTextsUptoRow.holds Try.pinned (OpenSpec.upto checkTextsSpec)

/-- 'muslinlaw22.CheckOwn', WHERE WHAT IT READS IS OF BULK AT MOST 1048576: true; the input reads as it did. -/
def checkOwnUptoRow : OpenClaim := { program := "ytlbmedmddoljnaa", sum := "4a48dcb3809eb4b0b9381064d349359b66fd33b12dbd44f7bda720292cb87c85", func := "muslin/muslinlaw22.CheckOwn", spec := "checkOwn", unfollowed := true, recurses := true, loops := true, apart := false, narrowed := true }
def CheckOwnUptoSaid : Prop := checkOwnUptoRow.holds Try.pinned (OpenSpec.upto checkOwnSpec)

/-- 'muslinlaw22.CheckReaches', WHERE WHAT IT READS IS OF BULK AT MOST 1048576: true; the input reads as it did. -/
def checkReachesUptoRow : OpenClaim := { program := "ytlbmedmddoljnaa", sum := "4a48dcb3809eb4b0b9381064d349359b66fd33b12dbd44f7bda720292cb87c85", func := "muslin/muslinlaw22.CheckReaches", spec := "checkReaches", unfollowed := true, recurses := true, loops := true, apart := false, narrowed := true }
def CheckReachesUptoSaid : Prop := checkReachesUptoRow.holds Try.pinned (OpenSpec.upto checkReachesSpec)

/-- 'muslinlaw42.CodeMay', WHERE WHAT IT READS IS OF BULK AT MOST 1048576: true; the input reads as it did. -/
def codeMayUptoRow : OpenClaim := { program := "ytlbmedmddoljnaa", sum := "4a48dcb3809eb4b0b9381064d349359b66fd33b12dbd44f7bda720292cb87c85", func := "muslin/muslinlaw42.CodeMay", spec := "codeMay", unfollowed := true, recurses := true, loops := true, apart := false, narrowed := true }
def CodeMayUptoSaid : Prop := codeMayUptoRow.holds Try.pinned (OpenSpec.upto codeMaySpec)

/-- 'muslinlaw42.CodeCheck', WHERE WHAT IT READS IS OF BULK AT MOST 1048576: true; the input reads as it did. -/
def codeCheckUptoRow : OpenClaim := { program := "ytlbmedmddoljnaa", sum := "4a48dcb3809eb4b0b9381064d349359b66fd33b12dbd44f7bda720292cb87c85", func := "muslin/muslinlaw42.CodeCheck", spec := "codeCheck", unfollowed := true, recurses := true, apart := false, narrowed := true }
def CodeCheckUptoSaid : Prop := codeCheckUptoRow.holds Try.pinned (OpenSpec.upto codeCheckSpec)

end Rows
end Go.Proofs.Ytlbmedmddoljnaa
