/-
  Whatever plain value, by whatever filter: what is told may stand there: muslinlaw35.FaithContained answers true, whatever the input, where what it reads is of bulk at most 1048576; the card's listed tables are tied by the given tie.
-/
import Derived.Test.YthbdcgfaklnelaaGreatDoorCards
import Derived.Test.YthbdcgfaklnelaaGreatDoorTie
import Derived.Test.YthbdcgfaklnelaaGreatDoorFC7
import Derived.WalkKit
import Derived.ProofKit
import Derived.OpenShut
import Derived.Shelf.Vars
import Derived.Deep.DeepHandedRow
set_option linter.unusedVariables false
set_option linter.unusedSimpArgs false
set_option maxRecDepth 100000
namespace Go.Mu
open Go Go.Proofs Go.Proofs.YthbdcgfaklnelaaGreatDoor
abbrev rowF : FuncId := 4
theorem law_true {xs : List T} (h : HasTs Tryz.prog [3, 32] xs) (hs : T.sizes xs ≤ 1048576) : ∃ Hn, CallOK Tryz.prog rowF (xs.map argT) [] (.ret (.bool true) Hn) := by
  obtain ⟨x, xs, rfl, h1, h2⟩ := HasTs.cons_inv h
  obtain ⟨y, xs, rfl, h3, h4⟩ := HasTs.cons_inv h2
  obtain rfl := HasTs.nil_inv h4
  obtain ⟨n, rfl, _⟩ := h1.int_inv (k := .i64) (by kernel_rfl)
  simp only [T.sizes] at hs
  have hp := y.size_pos
  obtain ⟨v1, v2, v3⟩ := val_T (y.size + 1) y h3 (by omega)
  have ea : Sub (argT y) (.agg (encVa (valOf (y.size + 1) y))) := by
    obtain ⟨parts, rfl, _⟩ := h3.struct_inv Tryz.underlying32
    exact .agg v1
  refine ⟨[], ?_⟩
  have key := fc_ok (y.size + 1) n (valOf (y.size + 1) y) (WvD_enc v2 (by omega))
  exact key.subArgs (.cons (.refl _) (.cons ea .nil))

def rowTypes : List TypeId := [3, 9, 30, 32, 29]
/-- a table's cells -/
def cells0 {H : Type} : DataW H → List Value
  | .lit (.int k n) => [.int k n]
  | _ => []
def cells1 {H : Type} : DataW H → List Value
  | .agg ps => ps.flatMap cells0
  | _ => []
def cells2 {H : Type} : DataW H → List Value
  | .agg ps => ps.flatMap cells1
  | _ => []
/-- the package-level variables that Mu knows hold what it knows of them -/
theorem glob_ok {W : World} (h : W.ShapedOpen Tryz.prog) (hl : laidMetH Tryz.prog Rows.faithContainedUptoRow.laid W) : GlobOK W (oldB W) := by
  have hl' : laidMet Tryz.prog Rows.faithContainedUptoRow.laid W := hl
  have e1 : Rows.laid_unicode_utf8_first = Lib.firstData := by kernel_rfl
  have e2 : (Rows.laid_unicode_utf8_acceptRanges : DataW Unit) = Lib.acceptData := by kernel_rfl
  refine ⟨fun g k hg => ?_, tabs_glob hl' (by rw [← e1]; exact .tail _ (.head _)) (by rw [← e2]; exact .head _)⟩
  obtain ⟨rfl, rfl⟩ : g = 0 ∧ k = .i64 := by
    unfold gints at hg
    split at hg
    · rename_i e
      simp only [Option.some.injEq] at hg
      exact ⟨by simpa using e, hg.symm⟩
    · cases hg
  have hm := cell_of_shapedOpen_int (P := Tryz.prog) (g := 0) (t := 3) (zero := #[.int .i64 0]) h (of_decide_eq_true (by kernel_rfl)) (by kernel_rfl) rfl (by kernel_rfl) (by kernel_rfl) Tryz.underlying3
  refine ⟨?_, hm⟩
  obtain ⟨m, hm⟩ := hm
  show 0 < W.heap.size
  unfold World.cell? at hm
  by_cases hlt : 0 < W.heap.size
  · exact hlt
  · rw [Array.getElem?_eq_none (by omega)] at hm
    simp at hm
end Go.Mu

namespace Go.Proofs.YthbdcgfaklnelaaGreatDoor.rowFaithContained
open Go.ChangeShapes Go.WideShapes Go.ChangeAt Go.RowKit Go.Mu
theorem own : ownKnob Tryz.prog.godebug = none := by kernel_rfl
theorem contract (H : Type) (enc : TypeId × Value → H) (W : World) (base : Nat) (args : Array Value) (ds gs : List (DataW H)) (before : List MemPlace) (hsh : W.ShapedOpen Tryz.prog) (hlaid : laidMetH Tryz.prog Rows.faithContainedUptoRow.laid W)
    (hval : ∀ (j : Nat) t v, Tryz.f4.params[j]? = some t → args[j]? = some v → Value.okWide Tryz.prog W .any base t v)
    (hW : DataW.Whole enc Tryz.prog Tryz.f4.params.toList Rows.faithContainedSpec.vars false W args.toList ds gs before) (hk : Rows.uptoSmall H (ds ++ gs) = true) :
    Calls Tryz.prog 4 args W fun e W' => ∃ v, e = .returned v ∧ Rows.faithContainedSpec.post enc Tryz.prog Tryz.f4 false true false false W args v W' := by
  have hW' := hW
  obtain ⟨p, q, hA, hV, rfl, hfz, hnd⟩ := hW'
  have hgs : gs = [] := by
    cases gs with
    | nil => rfl
    | cons g gs => exact hV.elim
  subst hgs
  rw [List.append_nil] at hk
  have hsz := small_size hk
  refine row_true (ts := rowTypes) (by kernel_rfl) (f := 4) (fn := Tryz.f4) (s := Rows.faithContainedSpec) (tb := 4) (glob_ok hsh hlaid) (by kernel_rfl) rfl (by kernel_rfl) (by kernel_rfl) hval hW (fun d hd _ hl => ?_) (fun ht => law_true ht hsz)
  match d, hl with
  | [d1, d2], _ => exact ⟨rfl, rfl, rfl⟩
/-- a world for the witness: the tables hold what their text lays -/
noncomputable def laidWorld (os : Os) : World :=
  let w := World.holding Tryz.prog os ⟨#[], #[], []⟩
  { w with heap := (w.heap.modify 1 fun
      | .cells _ t frozen => .cells (cells1 Go.Pinned.utf8First).toArray t frozen
      | o => o).modify 2 fun
      | .cells _ t frozen => .cells (cells2 (Rows.laid_unicode_utf8_acceptRanges (H := Unit))).toArray t frozen
      | o => o }
abbrev wArgs : Array Value := #[.int .i64 0, .agg #[.int .i64 0, .int .i64 0, .string ⟨#[]⟩, .slice none 0 0, .slice none 0 0]]
theorem laid_met (os : Os) : laidMet Tryz.prog Rows.faithContainedUptoRow.laid ((laidWorld os).forCall (fun _ _ => 0) ⟨#[], wArgs, []⟩).memory :=
  laidMet_of_run' 8 (by kernel_rfl) (by kernel_rfl)
theorem reads (os : Os) {H : Type} (enc : TypeId × Value → H) : ∃ places, DataW.whole enc Tryz.prog ((laidWorld os).forCall (fun _ _ => 0) ⟨#[], wArgs, []⟩).memory Tryz.f4.params.toList Rows.faithContainedSpec.vars false wArgs.toList 8 = some ([.lit (.int .i64 0), .agg [.lit (.int .i64 0), .lit (.int .i64 0), .lit (.string []), .nil, .nil]], [], places) :=
  ⟨[], by kernel_rfl⟩
set_option maxRecDepth 100000 in
theorem lifted (os : Os) (started : os.Started) (H : Type) (enc : TypeId × Value → H) (F : Stop.Interp) :
    ReturnsInHanded {} Tryz.checked os 4 .any ((Rows.OpenSpec.upto Rows.faithContainedSpec).preRow enc Tryz.prog Tryz.f4 Rows.faithContainedUptoRow.domain false Rows.faithContainedUptoRow.laid) (((Rows.OpenSpec.upto Rows.faithContainedSpec).at F).post enc Tryz.prog Tryz.f4 false true false false) := by
  obtain ⟨places, hx⟩ := reads os enc
  refine returnsInHanded_of_row (C := Tryz.checked) (s := Rows.OpenSpec.upto Rows.faithContainedSpec) own started (by kernel_rfl) Tryz.func4
    (witness_row_at (enc := enc) (C := Tryz.checked) false (laidWorld os) wArgs rfl (by kernel_rfl) (by kernel_rfl) (by kernel_rfl)
      (OpenSpec.preRow_of_cond 8 hx (by kernel_rfl) (fun k hk => by cases hk; kernel_rfl) (by kernel_rfl) (laid_met os))) ?_
  intro W base args ds gs before hval hW _ hcond _ hlaid hsh _
  exact contract H enc W base args ds gs before hsh hlaid hval hW (hcond _ rfl)
theorem over : Rows.FaithContainedUptoSaid :=
  OpenClaim.holds_of_cond 4 Tryz.f4 rfl rfl rfl rfl rfl rfl rfl ⟨rfl, rfl, rfl, rfl, rfl⟩ rfl rfl rfl rfl rfl (by kernel_rfl) Tryz.func4 (by kernel_rfl)
    (of_decide_eq_true (by kernel_rfl)) (by unfold Func.isWrapper; first | (rw [if_pos (by decide +kernel)]; kernel_rfl) | (rw [if_neg (by decide +kernel)]; exact ⟨rfl, rfl⟩))
    (fun os started H enc _ F => by rw [OpenClaim.pre_eq_preRow]; exact lifted os started H enc F)
theorem plain (f : FuncId) (fn : Func) (hf : Tryz.pinned.checked.prog.funcNamed "muslin/muslinlaw35.FaithContained" = some f) (hfn : Tryz.pinned.checked.prog.funcs[f]? = some fn) :
    true = Tryz.pinned.checked.prog.looks [] ∧ ∀ (j : Nat) t, fn.params[j]? = some t → Tryz.pinned.checked.prog.wantsStandIn t = false := by
  obtain rfl : f = 4 := Option.some.inj ((show Tryz.prog.funcNamed "muslin/muslinlaw35.FaithContained" = some 4 by kernel_rfl).symm.trans hf) |>.symm
  obtain rfl : fn = Tryz.f4 := (Option.some.inj (Tryz.func4.symm.trans hfn)).symm
  refine ⟨by kernel_rfl, fun j t ht => ?_⟩
  have hm := Array.mem_of_getElem? ht
  have e : Tryz.f4.params = #[3, 32] := by kernel_rfl
  rw [e] at hm
  have hall : (#[3, 32] : Array TypeId).all (fun t => !Tryz.prog.wantsStandIn t) = true := by kernel_rfl
  rw [Array.all_eq_true_iff_forall_mem] at hall
  show Tryz.prog.wantsStandIn t = false
  simpa using hall t hm
theorem proved : Rows.FaithContainedUptoCardSaid :=
  Claim7.holds_tied_plain_at .later [] _ _ _ _ over (fun _ h => by cases h) (by kernel_rfl) (fun _ h => by cases h) faithContainedUpto_row_tie rfl ⟨rfl, rfl⟩ (by kernel_rfl) rfl plain (by kernel_rfl)
end Go.Proofs.YthbdcgfaklnelaaGreatDoor.rowFaithContained
