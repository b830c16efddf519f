/-
  How many nodes of any choose: muslinlaw31.TraceChoices answers true, whatever the input, where what it reads is of bulk at most 1048576; the card's listed tables are tied by the given tie.
-/
import Derived.Test.YtchpbmjhpeghoaaGreatDoorCards
import Derived.Test.YtchpbmjhpeghoaaGreatDoorTie
import Derived.Test.YtchpbmjhpeghoaaGreatDoorTC5
import Derived.WalkKit
import Derived.ProofKit
import Derived.OpenShut
import Derived.Shelf.Vars
import Derived.Deep.DeepHandedRow
import Derived.Deep.DeepWitnessRowRef
import Derived.Deep.DeepLaidRun
import Derived.Lib.LaidIn
set_option linter.unusedVariables false
set_option linter.unusedSimpArgs false
set_option maxRecDepth 100000
namespace Go.Mu
open Go Go.Proofs Go.Proofs.YtchpbmjhpeghoaaGreatDoor
abbrev rowF : FuncId := 4
theorem law_true {xs : List T} (h : HasTs Tryz.prog [27] xs) (hs : T.sizes xs ≤ 1048576) : ∃ Hn, CallOK Tryz.prog rowF (xs.map argT) [] (.ret (.bool true) Hn) := by
  obtain ⟨x, xs, rfl, h1, h2⟩ := HasTs.cons_inv h
  obtain rfl := HasTs.nil_inv h2
  obtain ⟨full, es, rfl, he⟩ := h1.slice_inv (e := 44) (by kernel_rfl)
  simp only [T.sizes, T.size] at hs
  have hw := wfV_T 1048577 full es he (by omega) (by omega)
  have hW : chW (1048576 + 1) (.list full es.length (T.encAt es)) := ⟨hw.1, Nat.le_trans hw.2 (by omega)⟩
  have ea : argT (.l full es) = .list full es.length (T.encAt es) := by simp [argT, T.enc]
  obtain ⟨w1, _, w3⟩ := sub_W hW
  refine ⟨[], ?_⟩
  show CallOK Tryz.prog rowF [argT (.l full es)] [] _
  rw [ea]
  exact (lc_ok alive31_ok (1048576 + 1) _ _ w1).subArgs (.cons w3 .nil)

def rowTypes : List TypeId := [27, 44, 9, 3, 42, 259, 257, 294, 34]
/-- a table's cells -/
def cells0 {H : Type} : DataW H → List Value
  | .lit (.int k n) => [.int k n]
  | _ => []
def cells1 {H : Type} : DataW H → List Value
  | .agg ps => ps.flatMap cells0
  | _ => []
def cells2 {H : Type} : DataW H → List Value
  | .agg ps => ps.flatMap cells1
  | _ => []
/-- the package-level variables that Mu knows hold what it knows of them -/
theorem glob_ok {W : World} (h : W.ShapedOpen Tryz.prog) (hl : laidMetH Tryz.prog Rows.traceChoicesUptoRow.laid W) : GlobOK W (oldB W) := by
  have hl' : laidMet Tryz.prog Rows.traceChoicesUptoRow.laid W := hl
  have e1 : Rows.laid_unicode_utf8_first = Lib.firstData := by kernel_rfl
  have e2 : (Rows.laid_unicode_utf8_acceptRanges : DataW Unit) = Lib.acceptData := by kernel_rfl
  have e3 : (Rows.laid_strings_asciiSpace : DataW Unit) = Lib.tabData .u8 Lib.asciiSpaceTab := by kernel_rfl
  refine ⟨fun g k hg => ?_, tabs_glob hl' (by rw [← e1]; exact .tail _ (.tail _ (.tail _ (.head _)))) (by rw [← e2]; exact .head _) (by rw [← e3]; exact .tail _ (.tail _ (.head _)))⟩
  obtain ⟨rfl, rfl⟩ : g = 0 ∧ k = .i64 := by
    unfold gints at hg
    split at hg
    · rename_i e
      simp only [Option.some.injEq] at hg
      exact ⟨by simpa using e, hg.symm⟩
    · cases hg
  have hm := cell_of_shapedOpen_int (P := Tryz.prog) (g := 0) (t := 3) (zero := #[.int .i64 0]) h (of_decide_eq_true (by kernel_rfl)) (by kernel_rfl) rfl (by kernel_rfl) (by kernel_rfl) Tryz.underlying3
  refine ⟨?_, hm⟩
  obtain ⟨m, hm⟩ := hm
  show 0 < W.heap.size
  unfold World.cell? at hm
  by_cases hlt : 0 < W.heap.size
  · exact hlt
  · rw [Array.getElem?_eq_none (by omega)] at hm
    simp at hm
end Go.Mu

namespace Go.Proofs.YtchpbmjhpeghoaaGreatDoor.rowTraceChoices
open Go.ChangeShapes Go.WideShapes Go.ChangeAt Go.RowKit Go.Mu
theorem own : ownKnob Tryz.prog.godebug = none := by kernel_rfl
theorem contract (H : Type) (enc : TypeId × Value → H) (W : World) (base : Nat) (args : Array Value) (ds gs : List (DataW H)) (before : List MemPlace) (hsh : W.ShapedOpen Tryz.prog) (hlaid : laidMetH Tryz.prog Rows.traceChoicesUptoRow.laid W)
    (hval : ∀ (j : Nat) t v, Tryz.f4.params[j]? = some t → args[j]? = some v → Value.okWide Tryz.prog W .any base t v)
    (hW : DataW.Whole enc Tryz.prog Tryz.f4.params.toList Rows.traceChoicesSpec.vars false W args.toList ds gs before) (hk : Rows.uptoSmall H (ds ++ gs) = true) :
    Calls Tryz.prog 4 args W fun e W' => ∃ v, e = .returned v ∧ Rows.traceChoicesSpec.post enc Tryz.prog Tryz.f4 false true false false W args v W' := by
  have hW' := hW
  obtain ⟨p, q, hA, hV, rfl, hfz, hnd⟩ := hW'
  have hgs : gs = [] := by
    cases gs with
    | nil => rfl
    | cons g gs => exact hV.elim
  subst hgs
  rw [List.append_nil] at hk
  have hsz := small_size hk
  refine row_true (ts := rowTypes) (by kernel_rfl) (f := 4) (fn := Tryz.f4) (s := Rows.traceChoicesSpec) (tb := 4) (glob_ok hsh hlaid) (by kernel_rfl) rfl (by kernel_rfl) (by kernel_rfl) hval hW (fun d hd _ hl => ?_) (fun ht => law_true ht hsz)
  match d, hl with
  | [d1], _ => exact ⟨rfl, rfl, rfl⟩
/-- a world for the witness: the tables hold what their text lays -/
noncomputable def laidWorld (os : Os) : World :=
  let N := (World.settled Tryz.prog os).heap.size
  let w := World.holding Tryz.prog os ⟨#[.cells (Lib.whiteT.map fun (z : Nat) => Value.int .u16 (z : Int)).toArray 419, .cells #[.slice (some ⟨N, 0, none⟩) 7 7, .slice none 0 0, .int .i64 2] 416], #[], []⟩
  { w with heap := (((w.heap.modify 1 fun
      | .cells _ t frozen => .cells (cells1 Go.Pinned.utf8First).toArray t frozen
      | o => o).modify 2 fun
      | .cells _ t frozen => .cells (cells2 (Rows.laid_unicode_utf8_acceptRanges (H := Unit))).toArray t frozen
      | o => o).modify 3 fun
      | .cells _ t frozen => .cells (Lib.asciiSpaceTab.map fun z => Value.int .u8 z).toArray t frozen
      | o => o).modify 4 fun
      | .cells _ t frozen => .cells #[.pointer (some ⟨N + 1, 0, none⟩)] t frozen
      | o => o }
abbrev wArgs : Array Value := #[.slice none 0 0]
theorem piece0 (os : Os) : LaidIn Tryz.prog ((laidWorld os).forCall (fun _ _ => 0) ⟨#[], wArgs, []⟩).memory [("unicode/utf8.acceptRanges", Rows.laid_unicode_utf8_acceptRanges)] [2] :=
  LaidIn.of_run [2] 10 (by kernel_rfl) (by kernel_rfl) (by kernel_rfl) (by kernel_rfl)
theorem piece1 (os : Os) : LaidIn Tryz.prog ((laidWorld os).forCall (fun _ _ => 0) ⟨#[], wArgs, []⟩).memory [("unicode.White_Space", Rows.laid_unicode_White_Space)] [4, (World.settled Tryz.prog default).heap.size + 1, (World.settled Tryz.prog default).heap.size] :=
  LaidIn.of_run [4, (World.settled Tryz.prog default).heap.size + 1, (World.settled Tryz.prog default).heap.size] 10 (by kernel_rfl) (by kernel_rfl) (by kernel_rfl) (by kernel_rfl)
theorem piece2 (os : Os) : LaidIn Tryz.prog ((laidWorld os).forCall (fun _ _ => 0) ⟨#[], wArgs, []⟩).memory [("strings.asciiSpace", Rows.laid_strings_asciiSpace)] [3] :=
  LaidIn.of_run [3] 10 (by kernel_rfl) (by kernel_rfl) (by kernel_rfl) (by kernel_rfl)
theorem piece3 (os : Os) : LaidIn Tryz.prog ((laidWorld os).forCall (fun _ _ => 0) ⟨#[], wArgs, []⟩).memory [("unicode/utf8.first", Rows.laid_unicode_utf8_first)] [1] :=
  LaidIn.of_run [1] 10 (by kernel_rfl) (by kernel_rfl) (by kernel_rfl) (by kernel_rfl)
theorem wit1 (os : Os) : ((laidWorld os).forCall (fun _ _ => 0) ⟨#[], wArgs, []⟩).variablesRefB Tryz.checked.prog = true := by kernel_rfl
theorem wit2 (os : Os) : (((laidWorld os).forCall (fun _ _ => 0) ⟨#[], wArgs, []⟩).heap.toList.drop Tryz.checked.prog.globals.size).take ((begin Tryz.checked.prog (fun _ _ => 0) default).world.heap.size - Tryz.checked.prog.globals.size) =
      (begin Tryz.checked.prog (fun _ _ => 0) default).world.heap.toList.drop Tryz.checked.prog.globals.size := by kernel_rfl
theorem wit3 (os : Os) : Input.okWideB Tryz.checked.prog ((laidWorld os).forCall (fun _ _ => 0) ⟨#[], wArgs, []⟩) 4 ⟨#[], wArgs, []⟩ = true := by kernel_rfl
theorem laid_met (os : Os) : laidMet Tryz.prog Rows.traceChoicesUptoRow.laid ((laidWorld os).forCall (fun _ _ => 0) ⟨#[], wArgs, []⟩).memory :=
  ((((piece0 os).append (piece1 os) (by kernel_rfl)).append (piece2 os) (by kernel_rfl)).append (piece3 os) (by kernel_rfl)).met
theorem reads (os : Os) {H : Type} (enc : TypeId × Value → H) : ∃ places, DataW.whole enc Tryz.prog ((laidWorld os).forCall (fun _ _ => 0) ⟨#[], wArgs, []⟩).memory Tryz.f4.params.toList Rows.traceChoicesSpec.vars false wArgs.toList 8 = some ([.nil], [], places) :=
  ⟨[], by kernel_rfl⟩
set_option maxRecDepth 100000 in
theorem lifted (os : Os) (started : os.Started) (H : Type) (enc : TypeId × Value → H) (F : Stop.Interp) :
    ReturnsInHanded {} Tryz.checked os 4 .any ((Rows.OpenSpec.upto Rows.traceChoicesSpec).preRow enc Tryz.prog Tryz.f4 Rows.traceChoicesUptoRow.domain false Rows.traceChoicesUptoRow.laid) (((Rows.OpenSpec.upto Rows.traceChoicesSpec).at F).post enc Tryz.prog Tryz.f4 false true false false) := by
  obtain ⟨places, hx⟩ := reads os enc
  refine returnsInHanded_of_row (C := Tryz.checked) (s := Rows.OpenSpec.upto Rows.traceChoicesSpec) own started (by kernel_rfl) Tryz.func4
    (witness_row_atRef (enc := enc) (C := Tryz.checked) false (laidWorld os) wArgs rfl (wit1 os) (wit2 os) (wit3 os)
      (OpenSpec.preRow_of_cond 8 hx (by kernel_rfl) (fun k hk => by cases hk; kernel_rfl) (by kernel_rfl) (laid_met os))) ?_
  intro W base args ds gs before hval hW _ hcond _ hlaid hsh _
  exact contract H enc W base args ds gs before hsh hlaid hval hW (hcond _ rfl)
theorem clo : Tryz.prog.closure 4 = [4, 11, 12, 10, 19, 18, 24, 30, 38, 57, 89, 90, 148, 166, 218, 208, 209, 210, 250, 91, 149, 129, 131, 132, 187, 134, 188, 241, 189, 242, 103, 245, 150, 22, 32, 42, 92, 151, 211, 251, 206, 146, 153, 152, 154, 142, 155, 23, 212, 130, 133, 135, 190, 243, 156, 93, 49, 79, 58, 59, 94, 157, 97, 95, 158, 213, 214, 83, 252, 294, 253, 295, 254, 255, 194, 247, 293, 248, 256, 102, 96, 159, 98, 160, 164, 216, 262, 217, 162, 161, 116, 99, 163, 215, 257, 258, 259, 260, 261, 296, 297, 324, 348, 362, 368, 373, 369, 374, 147, 207, 235, 100, 40, 64, 109, 110, 71, 111, 112, 121, 179, 232, 273, 233, 234, 274, 307, 275, 113, 171, 172, 224, 173, 65, 67, 66, 115, 114, 68, 117, 118, 174, 225, 264, 298, 299, 302, 335, 265, 300, 301, 325, 141, 195, 196, 197, 198, 244, 200, 193, 246, 292, 349, 363, 364, 370, 375, 343, 143, 199, 357, 365, 371, 376, 385, 386, 388, 390, 391, 392, 393, 394, 389, 377, 378, 379, 380, 381, 366, 372, 382, 387, 383, 384, 350, 351, 326, 352, 327, 328, 329, 353, 354, 204, 330, 331, 332, 333, 334, 355, 356, 249, 226, 266, 303, 304, 305, 267, 227, 228, 268, 270, 269, 306, 69, 34, 44, 73, 74, 122, 72, 120, 45, 75, 123, 124, 46, 48, 78, 47, 76, 77, 125, 127, 182, 236, 276, 308, 336, 277, 278, 279, 237, 281, 309, 239, 15, 289, 290, 291, 16, 21, 33, 43, 280, 282, 310, 240, 311, 312, 313, 337, 283, 314, 263, 338, 315, 316, 317, 339, 126, 181, 180, 128, 183, 184, 238, 284, 285, 176, 230, 271, 272, 231, 286, 318, 340, 358, 367, 191, 341, 229, 319, 288, 287, 320, 342, 359, 321, 175, 344, 178, 345, 346, 119, 177, 322, 323, 347, 360, 361, 185, 186, 7] := by kernel_rfl
theorem fc1 : (Rows.traceChoicesUptoRow.inPlace == Tryz.prog.inPlace 4) = true := by unfold Program.inPlace; rw [clo]; kernel_rfl
theorem fc2 : (Rows.traceChoicesUptoRow.unfollowed == Tryz.prog.unfollowed 4) = true := by unfold Program.unfollowed; rw [clo]; kernel_rfl
theorem fc3 : (Rows.traceChoicesUptoRow.recurses == Tryz.prog.recurses 4) = true := by unfold Program.recurses Program.unfollowed; rw [clo]; kernel_rfl
theorem fc4 : (Rows.traceChoicesUptoRow.named == Tryz.prog.varsNamed 4) = true := by unfold Program.varsNamed; rw [clo]; kernel_rfl
theorem closed : joinedFacts Tryz.prog 4 Tryz.f4 (Rows.OpenSpec.upto Rows.traceChoicesSpec).bare Rows.traceChoicesUptoRow = true := by
  unfold joinedFacts
  rw [fc1, fc2, fc3, fc4]
  kernel_rfl
theorem goes0 : Tryz.prog.goes 4 = false := by unfold Program.goes Program.unfollowed; rw [clo]; kernel_rfl
theorem goesB : false = Rows.traceChoicesUptoRow.goesBy Tryz.prog := by
  have hf : Tryz.prog.funcNamed "muslin/muslinlaw31.TraceChoices" = some 4 := by kernel_rfl
  have h : Rows.traceChoicesUptoRow.goesBy Tryz.prog = Tryz.prog.goesAt .entering "muslin/muslinlaw31.TraceChoices" := by kernel_rfl
  rw [h]
  unfold Program.goesAt Program.goesFrom
  rw [hf, Option.any_some, goes0]
  rfl
theorem over : Rows.TraceChoicesUptoSaid :=
  OpenClaim.holds_of_cond 4 Tryz.f4 rfl rfl rfl rfl rfl rfl rfl ⟨rfl, rfl, rfl, rfl, rfl⟩ rfl rfl rfl rfl rfl (by kernel_rfl) Tryz.func4 closed
    (of_decide_eq_true (by kernel_rfl)) (by unfold Func.isWrapper; first | (rw [if_pos (by decide +kernel)]; kernel_rfl) | (rw [if_neg (by decide +kernel)]; exact ⟨rfl, rfl⟩))
    (fun os started H enc _ F => by rw [OpenClaim.pre_eq_preRow]; exact lifted os started H enc F)
theorem plain (f : FuncId) (fn : Func) (hf : Tryz.pinned.checked.prog.funcNamed "muslin/muslinlaw31.TraceChoices" = some f) (hfn : Tryz.pinned.checked.prog.funcs[f]? = some fn) :
    true = Tryz.pinned.checked.prog.looks [] ∧ ∀ (j : Nat) t, fn.params[j]? = some t → Tryz.pinned.checked.prog.wantsStandIn t = false := by
  obtain rfl : f = 4 := Option.some.inj ((show Tryz.prog.funcNamed "muslin/muslinlaw31.TraceChoices" = some 4 by kernel_rfl).symm.trans hf) |>.symm
  obtain rfl : fn = Tryz.f4 := (Option.some.inj (Tryz.func4.symm.trans hfn)).symm
  refine ⟨by kernel_rfl, fun j t ht => ?_⟩
  have hm := Array.mem_of_getElem? ht
  have e : Tryz.f4.params = #[27] := by kernel_rfl
  rw [e] at hm
  have hall : (#[27] : Array TypeId).all (fun t => !Tryz.prog.wantsStandIn t) = true := by kernel_rfl
  rw [Array.all_eq_true_iff_forall_mem] at hall
  show Tryz.prog.wantsStandIn t = false
  simpa using hall t hm
theorem proved : Rows.TraceChoicesUptoCardSaid :=
  Claim7.holds_tied_plain_at .later [] _ _ _ _ over (fun _ h => by cases h) (by kernel_rfl) (fun _ h => by cases h) traceChoicesUpto_row_tie rfl ⟨rfl, rfl⟩ (by kernel_rfl) rfl plain goesB
end Go.Proofs.YtchpbmjhpeghoaaGreatDoor.rowTraceChoices
