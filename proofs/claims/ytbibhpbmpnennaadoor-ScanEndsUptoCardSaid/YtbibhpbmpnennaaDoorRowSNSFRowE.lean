/-
  In data a > is text: it stays data: muslinlaw17.ScanEnds answers true, whatever the input, where what it reads is of bulk at most 1048576; the card's listed tables are tied by the given tie.
-/
import Derived.Test.YtbibhpbmpnennaaDoorCards
import Derived.Test.YtbibhpbmpnennaaDoorTie
import Derived.Test.YtbibhpbmpnennaaDoorSN6
import Derived.WalkKit
import Derived.ProofKit
import Derived.OpenShut
import Derived.Shelf.Vars
import Derived.Deep.DeepHandedRow
import Derived.Deep.DeepWitnessRowRef
import Derived.Deep.DeepLaidRun
import Derived.Lib.LaidIn
set_option linter.unusedVariables false
set_option linter.unusedSimpArgs false
set_option maxRecDepth 100000
namespace Go.Mu
open Go Go.Proofs Go.Proofs.YtbibhpbmpnennaaDoor
abbrev rowF : FuncId := 4
theorem law_true {xs : List T} (h : HasTs Tryd.prog [9] xs) (hs : T.sizes xs ≤ 1048576) : ∃ Hn, CallOK Tryd.prog rowF (xs.map argT) [] (.ret (.bool true) Hn) := by
  obtain ⟨x, xs, rfl, h1, h2⟩ := HasTs.cons_inv h
  obtain rfl := HasTs.nil_inv h2
  obtain ⟨s, rfl⟩ := h1.str_inv (by kernel_rfl)
  simp only [T.sizes, T.size] at hs
  exact ⟨[], ends_true s (by omega)⟩

def rowTypes : List TypeId := [9]
/-- a table's cells -/
def cells0 {H : Type} : DataW H → List Value
  | .lit (.int k n) => [.int k n]
  | _ => []
def cells1 {H : Type} : DataW H → List Value
  | .agg ps => ps.flatMap cells0
  | _ => []
def cells2 {H : Type} : DataW H → List Value
  | .agg ps => ps.flatMap cells1
  | _ => []
/-- the package-level variables that Mu knows hold what it knows of them -/
theorem glob_ok {W : World} (h : W.ShapedOpen Tryd.prog) (hl : laidMetH Tryd.prog Rows.scanEndsUptoRow.laid W) : GlobOK W (oldB W) := by
  have hl' : laidMet Tryd.prog Rows.scanEndsUptoRow.laid W := hl
  have e3 : (Rows.laid_strings_asciiSpace : DataW Unit) = Lib.tabData .u8 Lib.asciiSpaceTab := by kernel_rfl
  refine ⟨fun g k hg => ?_, tabs_glob hl' (by rw [← e3]; exact .tail _ (.head _))⟩
  obtain ⟨rfl, rfl⟩ : g = 0 ∧ k = .i64 := by
    unfold gints at hg
    split at hg
    · rename_i e
      simp only [Option.some.injEq] at hg
      exact ⟨by simpa using e, hg.symm⟩
    · cases hg
  have hm := cell_of_shapedOpen_int (P := Tryd.prog) (g := 0) (t := 3) (zero := #[.int .i64 0]) h (of_decide_eq_true (by kernel_rfl)) (by kernel_rfl) rfl (by kernel_rfl) (by kernel_rfl) Tryd.underlying3
  refine ⟨?_, hm⟩
  obtain ⟨m, hm⟩ := hm
  show 0 < W.heap.size
  unfold World.cell? at hm
  by_cases hlt : 0 < W.heap.size
  · exact hlt
  · rw [Array.getElem?_eq_none (by omega)] at hm
    simp at hm
end Go.Mu

namespace Go.Proofs.YtbibhpbmpnennaaDoor.rowScanEnds
open Go.ChangeShapes Go.WideShapes Go.ChangeAt Go.RowKit Go.Mu
theorem own : ownKnob Tryd.prog.godebug = none := by kernel_rfl
theorem contract (H : Type) (enc : TypeId × Value → H) (W : World) (base : Nat) (args : Array Value) (ds gs : List (DataW H)) (before : List MemPlace) (hsh : W.ShapedOpen Tryd.prog) (hlaid : laidMetH Tryd.prog Rows.scanEndsUptoRow.laid W)
    (hval : ∀ (j : Nat) t v, Tryd.f4.params[j]? = some t → args[j]? = some v → Value.okWide Tryd.prog W .any base t v)
    (hW : DataW.Whole enc Tryd.prog Tryd.f4.params.toList Rows.scanEndsSpec.vars false W args.toList ds gs before) (hk : Rows.uptoSmall H (ds ++ gs) = true) :
    Calls Tryd.prog 4 args W fun e W' => ∃ v, e = .returned v ∧ Rows.scanEndsSpec.post enc Tryd.prog Tryd.f4 false true false false W args v W' := by
  have hW' := hW
  obtain ⟨p, q, hA, hV, rfl, hfz, hnd⟩ := hW'
  have hgs : gs = [] := by
    cases gs with
    | nil => rfl
    | cons g gs => exact hV.elim
  subst hgs
  rw [List.append_nil] at hk
  have hsz := small_size hk
  refine row_true (ts := rowTypes) (by kernel_rfl) (f := 4) (fn := Tryd.f4) (s := Rows.scanEndsSpec) (tb := 4) (glob_ok hsh hlaid) (by kernel_rfl) rfl (by kernel_rfl) (by kernel_rfl) hval hW (fun d hd _ hl => ?_) (fun ht => law_true ht hsz)
  match d, hl with
  | [d1], _ => exact ⟨rfl, rfl, rfl⟩
/-- a world for the witness: the tables hold what their text lays -/
noncomputable def laidWorld (os : Os) : World :=
  let N := (World.settled Tryd.prog os).heap.size
  let w := World.holding Tryd.prog os ⟨#[.cells (Lib.whiteT.map fun (z : Nat) => Value.int .u16 (z : Int)).toArray 105, .cells #[.slice (some ⟨N, 0, none⟩) 7 7, .slice none 0 0, .int .i64 2] 102], #[], []⟩
  { w with heap := (w.heap.modify 1 fun
      | .cells _ t frozen => .cells (Lib.asciiSpaceTab.map fun z => Value.int .u8 z).toArray t frozen
      | o => o).modify 2 fun
      | .cells _ t frozen => .cells #[.pointer (some ⟨N + 1, 0, none⟩)] t frozen
      | o => o }
abbrev wArgs : Array Value := #[.string ⟨#[]⟩]
theorem piece0 (os : Os) : LaidIn Tryd.prog ((laidWorld os).forCall (fun _ _ => 0) ⟨#[], wArgs, []⟩).memory [("unicode.White_Space", Rows.laid_unicode_White_Space)] [2, (World.settled Tryd.prog default).heap.size + 1, (World.settled Tryd.prog default).heap.size] :=
  LaidIn.of_run [2, (World.settled Tryd.prog default).heap.size + 1, (World.settled Tryd.prog default).heap.size] 10 (by kernel_rfl) (by kernel_rfl) (by kernel_rfl) (by kernel_rfl)
theorem piece1 (os : Os) : LaidIn Tryd.prog ((laidWorld os).forCall (fun _ _ => 0) ⟨#[], wArgs, []⟩).memory [("strings.asciiSpace", Rows.laid_strings_asciiSpace)] [1] :=
  LaidIn.of_run [1] 10 (by kernel_rfl) (by kernel_rfl) (by kernel_rfl) (by kernel_rfl)
theorem wit1 (os : Os) : ((laidWorld os).forCall (fun _ _ => 0) ⟨#[], wArgs, []⟩).variablesRefB Tryd.checked.prog = true := by kernel_rfl
theorem wit2 (os : Os) : (((laidWorld os).forCall (fun _ _ => 0) ⟨#[], wArgs, []⟩).heap.toList.drop Tryd.checked.prog.globals.size).take ((begin Tryd.checked.prog (fun _ _ => 0) default).world.heap.size - Tryd.checked.prog.globals.size) =
      (begin Tryd.checked.prog (fun _ _ => 0) default).world.heap.toList.drop Tryd.checked.prog.globals.size := by kernel_rfl
theorem wit3 (os : Os) : Input.okWideB Tryd.checked.prog ((laidWorld os).forCall (fun _ _ => 0) ⟨#[], wArgs, []⟩) 4 ⟨#[], wArgs, []⟩ = true := by kernel_rfl
theorem laid_met (os : Os) : laidMet Tryd.prog Rows.scanEndsUptoRow.laid ((laidWorld os).forCall (fun _ _ => 0) ⟨#[], wArgs, []⟩).memory :=
  ((piece0 os).append (piece1 os) (by kernel_rfl)).met
theorem reads (os : Os) {H : Type} (enc : TypeId × Value → H) : ∃ places, DataW.whole enc Tryd.prog ((laidWorld os).forCall (fun _ _ => 0) ⟨#[], wArgs, []⟩).memory Tryd.f4.params.toList Rows.scanEndsSpec.vars false wArgs.toList 8 = some ([.lit (.string [])], [], places) :=
  ⟨[], by kernel_rfl⟩
set_option maxRecDepth 100000 in
theorem lifted (os : Os) (started : os.Started) (H : Type) (enc : TypeId × Value → H) (F : Stop.Interp) :
    ReturnsInHanded {} Tryd.checked os 4 .any ((Rows.OpenSpec.upto Rows.scanEndsSpec).preRow enc Tryd.prog Tryd.f4 Rows.scanEndsUptoRow.domain false Rows.scanEndsUptoRow.laid) (((Rows.OpenSpec.upto Rows.scanEndsSpec).at F).post enc Tryd.prog Tryd.f4 false true false false) := by
  obtain ⟨places, hx⟩ := reads os enc
  refine returnsInHanded_of_row (C := Tryd.checked) (s := Rows.OpenSpec.upto Rows.scanEndsSpec) own started (by kernel_rfl) Tryd.func4
    (witness_row_atRef (enc := enc) (C := Tryd.checked) false (laidWorld os) wArgs rfl (wit1 os) (wit2 os) (wit3 os)
      (OpenSpec.preRow_of_cond 8 hx (by kernel_rfl) (fun k hk => by cases hk; kernel_rfl) (by kernel_rfl) (laid_met os))) ?_
  intro W base args ds gs before hval hW _ hcond _ hlaid hsh _
  exact contract H enc W base args ds gs before hsh hlaid hval hW (hcond _ rfl)
theorem over : Rows.ScanEndsUptoSaid :=
  OpenClaim.holds_of_cond 4 Tryd.f4 rfl rfl rfl rfl rfl rfl rfl ⟨rfl, rfl, rfl, rfl, rfl⟩ rfl rfl rfl rfl rfl (by kernel_rfl) Tryd.func4 (by kernel_rfl)
    (of_decide_eq_true (by kernel_rfl)) (by unfold Func.isWrapper; first | (rw [if_pos (by decide +kernel)]; kernel_rfl) | (rw [if_neg (by decide +kernel)]; exact ⟨rfl, rfl⟩))
    (fun os started H enc _ F => by rw [OpenClaim.pre_eq_preRow]; exact lifted os started H enc F)
theorem plain (f : FuncId) (fn : Func) (hf : Tryd.pinned.checked.prog.funcNamed "muslin/muslinlaw17.ScanEnds" = some f) (hfn : Tryd.pinned.checked.prog.funcs[f]? = some fn) :
    true = Tryd.pinned.checked.prog.looks [] ∧ ∀ (j : Nat) t, fn.params[j]? = some t → Tryd.pinned.checked.prog.wantsStandIn t = false := by
  obtain rfl : f = 4 := Option.some.inj ((show Tryd.prog.funcNamed "muslin/muslinlaw17.ScanEnds" = some 4 by kernel_rfl).symm.trans hf) |>.symm
  obtain rfl : fn = Tryd.f4 := (Option.some.inj (Tryd.func4.symm.trans hfn)).symm
  refine ⟨by kernel_rfl, fun j t ht => ?_⟩
  have hm := Array.mem_of_getElem? ht
  have e : Tryd.f4.params = #[9] := by kernel_rfl
  rw [e] at hm
  have hall : (#[9] : Array TypeId).all (fun t => !Tryd.prog.wantsStandIn t) = true := by kernel_rfl
  rw [Array.all_eq_true_iff_forall_mem] at hall
  show Tryd.prog.wantsStandIn t = false
  simpa using hall t hm
theorem proved : Rows.ScanEndsUptoCardSaid :=
  Claim7.holds_tied_plain_at .later [] _ _ _ _ over (fun _ h => by cases h) (by kernel_rfl) (fun _ h => by cases h) scanEndsUpto_row_tie rfl ⟨rfl, rfl⟩ (by kernel_rfl) rfl plain (by kernel_rfl)
end Go.Proofs.YtbibhpbmpnennaaDoor.rowScanEnds
