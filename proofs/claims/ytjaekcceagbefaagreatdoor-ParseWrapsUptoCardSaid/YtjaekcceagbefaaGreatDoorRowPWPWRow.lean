/-
  A text that is read, without defines, is within an if that if's nodes (where it is not too deep, great or long): muslinlaw20.ParseWraps answers true, whatever the input, where what it reads is of bulk at most 1048576; the card's listed tables are tied by the given tie.
-/
import Derived.Test.YtjaekcceagbefaaGreatDoorCards
import Derived.Test.YtjaekcceagbefaaGreatDoorTie
import Derived.Test.YtjaekcceagbefaaGreatDoorPW7
import Derived.WalkKit
import Derived.ProofKit
import Derived.OpenShut
import Derived.Shelf.Vars
import Derived.Deep.DeepHandedRow
set_option linter.unusedVariables false
set_option linter.unusedSimpArgs false
set_option maxRecDepth 100000
namespace Go.Mu
open Go Go.Proofs Go.Proofs.YtjaekcceagbefaaGreatDoor
abbrev rowF : FuncId := 3
theorem law_true {xs : List T} (h : HasTs Tryz.prog [9] xs) (hs : T.sizes xs ≤ 1048576) : ∃ Hn, CallOK Tryz.prog rowF (xs.map argT) [] (.ret (.bool true) Hn) := by
  obtain ⟨x, xs, rfl, h1, h2⟩ := HasTs.cons_inv h
  obtain rfl := HasTs.nil_inv h2
  obtain ⟨s, rfl⟩ := h1.str_inv (by kernel_rfl)
  simp only [T.sizes, T.size] at hs
  exact ⟨[], wraps_true s (by omega)⟩

def rowTypes : List TypeId := [9]
/-- a table's cells -/
def cells0 {H : Type} : DataW H → List Value
  | .lit (.int k n) => [.int k n]
  | _ => []
def cells1 {H : Type} : DataW H → List Value
  | .agg ps => ps.flatMap cells0
  | _ => []
def cells2 {H : Type} : DataW H → List Value
  | .agg ps => ps.flatMap cells1
  | _ => []
/-- the package-level variables that Mu knows hold what it knows of them -/
theorem glob_ok {W : World} (h : W.ShapedOpen Tryz.prog) (hl : laidMetH Tryz.prog Rows.parseWrapsUptoRow.laid W) : GlobOK W (oldB W) := by
  have hl' : laidMet Tryz.prog Rows.parseWrapsUptoRow.laid W := hl
  have e1 : Rows.laid_unicode_utf8_first = Lib.firstData := by kernel_rfl
  have e2 : (Rows.laid_unicode_utf8_acceptRanges : DataW Unit) = Lib.acceptData := by kernel_rfl
  refine ⟨fun g k hg => ?_, tabs_glob hl' (by rw [← e1]; exact .tail _ (.head _)) (by rw [← e2]; exact .head _)⟩
  obtain ⟨rfl, rfl⟩ : g = 0 ∧ k = .i64 := by
    unfold gints at hg
    split at hg
    · rename_i e
      simp only [Option.some.injEq] at hg
      exact ⟨by simpa using e, hg.symm⟩
    · cases hg
  have hm := cell_of_shapedOpen_int (P := Tryz.prog) (g := 0) (t := 3) (zero := #[.int .i64 0]) h (of_decide_eq_true (by kernel_rfl)) (by kernel_rfl) rfl (by kernel_rfl) (by kernel_rfl) Tryz.underlying3
  refine ⟨?_, hm⟩
  obtain ⟨m, hm⟩ := hm
  show 0 < W.heap.size
  unfold World.cell? at hm
  by_cases hlt : 0 < W.heap.size
  · exact hlt
  · rw [Array.getElem?_eq_none (by omega)] at hm
    simp at hm
end Go.Mu

namespace Go.Proofs.YtjaekcceagbefaaGreatDoor.rowParseWraps
open Go.ChangeShapes Go.WideShapes Go.ChangeAt Go.RowKit Go.Mu
theorem own : ownKnob Tryz.prog.godebug = none := by kernel_rfl
theorem contract (H : Type) (enc : TypeId × Value → H) (W : World) (base : Nat) (args : Array Value) (ds gs : List (DataW H)) (before : List MemPlace) (hsh : W.ShapedOpen Tryz.prog) (hlaid : laidMetH Tryz.prog Rows.parseWrapsUptoRow.laid W)
    (hval : ∀ (j : Nat) t v, Tryz.f3.params[j]? = some t → args[j]? = some v → Value.okWide Tryz.prog W .any base t v)
    (hW : DataW.Whole enc Tryz.prog Tryz.f3.params.toList Rows.parseWrapsSpec.vars false W args.toList ds gs before) (hk : Rows.uptoSmall H (ds ++ gs) = true) :
    Calls Tryz.prog 3 args W fun e W' => ∃ v, e = .returned v ∧ Rows.parseWrapsSpec.post enc Tryz.prog Tryz.f3 false true false false W args v W' := by
  have hW' := hW
  obtain ⟨p, q, hA, hV, rfl, hfz, hnd⟩ := hW'
  have hgs : gs = [] := by
    cases gs with
    | nil => rfl
    | cons g gs => exact hV.elim
  subst hgs
  rw [List.append_nil] at hk
  have hsz := small_size hk
  refine row_true (ts := rowTypes) (by kernel_rfl) (f := 3) (fn := Tryz.f3) (s := Rows.parseWrapsSpec) (tb := 4) (glob_ok hsh hlaid) (by kernel_rfl) rfl (by kernel_rfl) (by kernel_rfl) hval hW (fun d hd _ hl => ?_) (fun ht => law_true ht hsz)
  match d, hl with
  | [d1], _ => exact ⟨rfl, rfl, rfl⟩
/-- a world for the witness: the tables hold what their text lays -/
noncomputable def laidWorld (os : Os) : World :=
  let w := World.holding Tryz.prog os ⟨#[], #[], []⟩
  { w with heap := (w.heap.modify 1 fun
      | .cells _ t frozen => .cells (cells1 Go.Pinned.utf8First).toArray t frozen
      | o => o).modify 2 fun
      | .cells _ t frozen => .cells (cells2 (Rows.laid_unicode_utf8_acceptRanges (H := Unit))).toArray t frozen
      | o => o }
abbrev wArgs : Array Value := #[.string ⟨#[]⟩]
theorem laid_met (os : Os) : laidMet Tryz.prog Rows.parseWrapsUptoRow.laid ((laidWorld os).forCall (fun _ _ => 0) ⟨#[], wArgs, []⟩).memory :=
  laidMet_of_run' 8 (by kernel_rfl) (by kernel_rfl)
theorem reads (os : Os) {H : Type} (enc : TypeId × Value → H) : ∃ places, DataW.whole enc Tryz.prog ((laidWorld os).forCall (fun _ _ => 0) ⟨#[], wArgs, []⟩).memory Tryz.f3.params.toList Rows.parseWrapsSpec.vars false wArgs.toList 8 = some ([.lit (.string [])], [], places) :=
  ⟨[], by kernel_rfl⟩
set_option maxRecDepth 100000 in
theorem lifted (os : Os) (started : os.Started) (H : Type) (enc : TypeId × Value → H) (F : Stop.Interp) :
    ReturnsInHanded {} Tryz.checked os 3 .any ((Rows.OpenSpec.upto Rows.parseWrapsSpec).preRow enc Tryz.prog Tryz.f3 Rows.parseWrapsUptoRow.domain false Rows.parseWrapsUptoRow.laid) (((Rows.OpenSpec.upto Rows.parseWrapsSpec).at F).post enc Tryz.prog Tryz.f3 false true false false) := by
  obtain ⟨places, hx⟩ := reads os enc
  refine returnsInHanded_of_row (C := Tryz.checked) (s := Rows.OpenSpec.upto Rows.parseWrapsSpec) own started (by kernel_rfl) Tryz.func3
    (witness_row_at (enc := enc) (C := Tryz.checked) false (laidWorld os) wArgs rfl (by kernel_rfl) (by kernel_rfl) (by kernel_rfl)
      (OpenSpec.preRow_of_cond 8 hx (by kernel_rfl) (fun k hk => by cases hk; kernel_rfl) (by kernel_rfl) (laid_met os))) ?_
  intro W base args ds gs before hval hW _ hcond _ hlaid hsh _
  exact contract H enc W base args ds gs before hsh hlaid hval hW (hcond _ rfl)
theorem over : Rows.ParseWrapsUptoSaid :=
  OpenClaim.holds_of_cond 3 Tryz.f3 rfl rfl rfl rfl rfl rfl rfl ⟨rfl, rfl, rfl, rfl, rfl⟩ rfl rfl rfl rfl rfl (by kernel_rfl) Tryz.func3 (by kernel_rfl)
    (of_decide_eq_true (by kernel_rfl)) (by unfold Func.isWrapper; first | (rw [if_pos (by decide +kernel)]; kernel_rfl) | (rw [if_neg (by decide +kernel)]; exact ⟨rfl, rfl⟩))
    (fun os started H enc _ F => by rw [OpenClaim.pre_eq_preRow]; exact lifted os started H enc F)
theorem plain (f : FuncId) (fn : Func) (hf : Tryz.pinned.checked.prog.funcNamed "muslin/muslinlaw20.ParseWraps" = some f) (hfn : Tryz.pinned.checked.prog.funcs[f]? = some fn) :
    true = Tryz.pinned.checked.prog.looks [] ∧ ∀ (j : Nat) t, fn.params[j]? = some t → Tryz.pinned.checked.prog.wantsStandIn t = false := by
  obtain rfl : f = 3 := Option.some.inj ((show Tryz.prog.funcNamed "muslin/muslinlaw20.ParseWraps" = some 3 by kernel_rfl).symm.trans hf) |>.symm
  obtain rfl : fn = Tryz.f3 := (Option.some.inj (Tryz.func3.symm.trans hfn)).symm
  refine ⟨by kernel_rfl, fun j t ht => ?_⟩
  have hm := Array.mem_of_getElem? ht
  have e : Tryz.f3.params = #[9] := by kernel_rfl
  rw [e] at hm
  have hall : (#[9] : Array TypeId).all (fun t => !Tryz.prog.wantsStandIn t) = true := by kernel_rfl
  rw [Array.all_eq_true_iff_forall_mem] at hall
  show Tryz.prog.wantsStandIn t = false
  simpa using hall t hm
theorem proved : Rows.ParseWrapsUptoCardSaid :=
  Claim7.holds_tied_plain_at .later [] _ _ _ _ over (fun _ h => by cases h) (by kernel_rfl) (fun _ h => by cases h) parseWrapsUpto_row_tie rfl ⟨rfl, rfl⟩ (by kernel_rfl) rfl plain (by kernel_rfl)
end Go.Proofs.YtjaekcceagbefaaGreatDoor.rowParseWraps
