/-
  A line's words: muslinlaw37.DeskSplits answers true, whatever the input, where what it reads is of bulk at most 1048576; the card's listed tables are tied by the given tie.
-/
import Derived.Test.YtdhfdladheclgaaGreatDoorCards
import Derived.Test.YtdhfdladheclgaaGreatDoorTie
import Derived.Test.YtdhfdladheclgaaGreatDoorDS4
import Derived.WalkKit
import Derived.ProofKit
import Derived.OpenShut
import Derived.Shelf.Vars
import Derived.Deep.DeepHandedRow
import Derived.Deep.DeepWitnessRowRef
import Derived.Deep.DeepLaidRun
import Derived.Lib.LaidIn
set_option linter.unusedVariables false
set_option linter.unusedSimpArgs false
set_option maxRecDepth 100000
namespace Go.Mu
open Go Go.Proofs Go.Proofs.YtdhfdladheclgaaGreatDoor
abbrev rowF : FuncId := 6
theorem law_true {xs : List T} (h : HasTs Tryz.prog [9] xs) (hs : T.sizes xs ≤ 1048576) : ∃ Hn, CallOK Tryz.prog rowF (xs.map argT) [] (.ret (.bool true) Hn) := by
  obtain ⟨x, xs, rfl, h1, h2⟩ := HasTs.cons_inv h
  obtain rfl := HasTs.nil_inv h2
  obtain ⟨s, rfl⟩ := h1.str_inv (by kernel_rfl)
  simp only [T.sizes, T.size] at hs
  exact ⟨[], split_law s (by omega)⟩

def rowTypes : List TypeId := [9]
/-- a table's cells -/
def cells0 {H : Type} : DataW H → List Value
  | .lit (.int k n) => [.int k n]
  | _ => []
def cells1 {H : Type} : DataW H → List Value
  | .agg ps => ps.flatMap cells0
  | _ => []
def cells2 {H : Type} : DataW H → List Value
  | .agg ps => ps.flatMap cells1
  | _ => []
/-- the package-level variables that Mu knows hold what it knows of them -/
theorem glob_ok {W : World} (h : W.ShapedOpen Tryz.prog) (hl : laidMetH Tryz.prog Rows.deskSplitsUptoRow.laid W) : GlobOK W (oldB W) := by
  have hl' : laidMet Tryz.prog Rows.deskSplitsUptoRow.laid W := hl
  have e1 : Rows.laid_unicode_utf8_first = Lib.firstData := by kernel_rfl
  have e2 : (Rows.laid_unicode_utf8_acceptRanges : DataW Unit) = Lib.acceptData := by kernel_rfl
  have e3 : (Rows.laid_strings_asciiSpace : DataW Unit) = Lib.tabData .u8 Lib.asciiSpaceTab := by kernel_rfl
  refine ⟨fun g k hg => ?_, tabs_glob hl' (by rw [← e1]; exact .tail _ (.tail _ (.tail _ (.head _)))) (by rw [← e2]; exact .head _) (by rw [← e3]; exact .tail _ (.tail _ (.head _)))⟩
  obtain ⟨rfl, rfl⟩ : g = 0 ∧ k = .i64 := by
    unfold gints at hg
    split at hg
    · rename_i e
      simp only [Option.some.injEq] at hg
      exact ⟨by simpa using e, hg.symm⟩
    · cases hg
  have hm := cell_of_shapedOpen_int (P := Tryz.prog) (g := 0) (t := 3) (zero := #[.int .i64 0]) h (of_decide_eq_true (by kernel_rfl)) (by kernel_rfl) rfl (by kernel_rfl) (by kernel_rfl) Tryz.underlying3
  refine ⟨?_, hm⟩
  obtain ⟨m, hm⟩ := hm
  show 0 < W.heap.size
  unfold World.cell? at hm
  by_cases hlt : 0 < W.heap.size
  · exact hlt
  · rw [Array.getElem?_eq_none (by omega)] at hm
    simp at hm
end Go.Mu

namespace Go.Proofs.YtdhfdladheclgaaGreatDoor.rowDeskSplits
open Go.ChangeShapes Go.WideShapes Go.ChangeAt Go.RowKit Go.Mu
theorem own : ownKnob Tryz.prog.godebug = none := by kernel_rfl
theorem contract (H : Type) (enc : TypeId × Value → H) (W : World) (base : Nat) (args : Array Value) (ds gs : List (DataW H)) (before : List MemPlace) (hsh : W.ShapedOpen Tryz.prog) (hlaid : laidMetH Tryz.prog Rows.deskSplitsUptoRow.laid W)
    (hval : ∀ (j : Nat) t v, Tryz.f6.params[j]? = some t → args[j]? = some v → Value.okWide Tryz.prog W .any base t v)
    (hW : DataW.Whole enc Tryz.prog Tryz.f6.params.toList Rows.deskSplitsSpec.vars false W args.toList ds gs before) (hk : Rows.uptoSmall H (ds ++ gs) = true) :
    Calls Tryz.prog 6 args W fun e W' => ∃ v, e = .returned v ∧ Rows.deskSplitsSpec.post enc Tryz.prog Tryz.f6 false true false false W args v W' := by
  have hW' := hW
  obtain ⟨p, q, hA, hV, rfl, hfz, hnd⟩ := hW'
  have hgs : gs = [] := by
    cases gs with
    | nil => rfl
    | cons g gs => exact hV.elim
  subst hgs
  rw [List.append_nil] at hk
  have hsz := small_size hk
  refine row_true (ts := rowTypes) (by kernel_rfl) (f := 6) (fn := Tryz.f6) (s := Rows.deskSplitsSpec) (tb := 4) (glob_ok hsh hlaid) (by kernel_rfl) rfl (by kernel_rfl) (by kernel_rfl) hval hW (fun d hd _ hl => ?_) (fun ht => law_true ht hsz)
  match d, hl with
  | [d1], _ => exact ⟨rfl, rfl, rfl⟩
/-- a world for the witness: the tables hold what their text lays -/
noncomputable def laidWorld (os : Os) : World :=
  let N := (World.settled Tryz.prog os).heap.size
  let w := World.holding Tryz.prog os ⟨#[.cells (Lib.whiteT.map fun (z : Nat) => Value.int .u16 (z : Int)).toArray 428, .cells #[.slice (some ⟨N, 0, none⟩) 7 7, .slice none 0 0, .int .i64 2] 425], #[], []⟩
  { w with heap := (((w.heap.modify 1 fun
      | .cells _ t frozen => .cells (cells1 Go.Pinned.utf8First).toArray t frozen
      | o => o).modify 2 fun
      | .cells _ t frozen => .cells (cells2 (Rows.laid_unicode_utf8_acceptRanges (H := Unit))).toArray t frozen
      | o => o).modify 3 fun
      | .cells _ t frozen => .cells (Lib.asciiSpaceTab.map fun z => Value.int .u8 z).toArray t frozen
      | o => o).modify 4 fun
      | .cells _ t frozen => .cells #[.pointer (some ⟨N + 1, 0, none⟩)] t frozen
      | o => o }
abbrev wArgs : Array Value := #[.string ⟨#[]⟩]
theorem piece0 (os : Os) : LaidIn Tryz.prog ((laidWorld os).forCall (fun _ _ => 0) ⟨#[], wArgs, []⟩).memory [("unicode/utf8.acceptRanges", Rows.laid_unicode_utf8_acceptRanges)] [2] :=
  LaidIn.of_run [2] 10 (by kernel_rfl) (by kernel_rfl) (by kernel_rfl) (by kernel_rfl)
theorem piece1 (os : Os) : LaidIn Tryz.prog ((laidWorld os).forCall (fun _ _ => 0) ⟨#[], wArgs, []⟩).memory [("unicode.White_Space", Rows.laid_unicode_White_Space)] [4, (World.settled Tryz.prog default).heap.size + 1, (World.settled Tryz.prog default).heap.size] :=
  LaidIn.of_run [4, (World.settled Tryz.prog default).heap.size + 1, (World.settled Tryz.prog default).heap.size] 10 (by kernel_rfl) (by kernel_rfl) (by kernel_rfl) (by kernel_rfl)
theorem piece2 (os : Os) : LaidIn Tryz.prog ((laidWorld os).forCall (fun _ _ => 0) ⟨#[], wArgs, []⟩).memory [("strings.asciiSpace", Rows.laid_strings_asciiSpace)] [3] :=
  LaidIn.of_run [3] 10 (by kernel_rfl) (by kernel_rfl) (by kernel_rfl) (by kernel_rfl)
theorem piece3 (os : Os) : LaidIn Tryz.prog ((laidWorld os).forCall (fun _ _ => 0) ⟨#[], wArgs, []⟩).memory [("unicode/utf8.first", Rows.laid_unicode_utf8_first)] [1] :=
  LaidIn.of_run [1] 10 (by kernel_rfl) (by kernel_rfl) (by kernel_rfl) (by kernel_rfl)
theorem wit1 (os : Os) : ((laidWorld os).forCall (fun _ _ => 0) ⟨#[], wArgs, []⟩).variablesRefB Tryz.checked.prog = true := by kernel_rfl
theorem wit2 (os : Os) : (((laidWorld os).forCall (fun _ _ => 0) ⟨#[], wArgs, []⟩).heap.toList.drop Tryz.checked.prog.globals.size).take ((begin Tryz.checked.prog (fun _ _ => 0) default).world.heap.size - Tryz.checked.prog.globals.size) =
      (begin Tryz.checked.prog (fun _ _ => 0) default).world.heap.toList.drop Tryz.checked.prog.globals.size := by kernel_rfl
theorem wit3 (os : Os) : Input.okWideB Tryz.checked.prog ((laidWorld os).forCall (fun _ _ => 0) ⟨#[], wArgs, []⟩) 6 ⟨#[], wArgs, []⟩ = true := by kernel_rfl
theorem laid_met (os : Os) : laidMet Tryz.prog Rows.deskSplitsUptoRow.laid ((laidWorld os).forCall (fun _ _ => 0) ⟨#[], wArgs, []⟩).memory :=
  ((((piece0 os).append (piece1 os) (by kernel_rfl)).append (piece2 os) (by kernel_rfl)).append (piece3 os) (by kernel_rfl)).met
theorem reads (os : Os) {H : Type} (enc : TypeId × Value → H) : ∃ places, DataW.whole enc Tryz.prog ((laidWorld os).forCall (fun _ _ => 0) ⟨#[], wArgs, []⟩).memory Tryz.f6.params.toList Rows.deskSplitsSpec.vars false wArgs.toList 8 = some ([.lit (.string [])], [], places) :=
  ⟨[], by kernel_rfl⟩
set_option maxRecDepth 100000 in
theorem lifted (os : Os) (started : os.Started) (H : Type) (enc : TypeId × Value → H) (F : Stop.Interp) :
    ReturnsInHanded {} Tryz.checked os 6 .any ((Rows.OpenSpec.upto Rows.deskSplitsSpec).preRow enc Tryz.prog Tryz.f6 Rows.deskSplitsUptoRow.domain false Rows.deskSplitsUptoRow.laid) (((Rows.OpenSpec.upto Rows.deskSplitsSpec).at F).post enc Tryz.prog Tryz.f6 false true false false) := by
  obtain ⟨places, hx⟩ := reads os enc
  refine returnsInHanded_of_row (C := Tryz.checked) (s := Rows.OpenSpec.upto Rows.deskSplitsSpec) own started (by kernel_rfl) Tryz.func6
    (witness_row_atRef (enc := enc) (C := Tryz.checked) false (laidWorld os) wArgs rfl (wit1 os) (wit2 os) (wit3 os)
      (OpenSpec.preRow_of_cond 8 hx (by kernel_rfl) (fun k hk => by cases hk; kernel_rfl) (by kernel_rfl) (laid_met os))) ?_
  intro W base args ds gs before hval hW _ hcond _ hlaid hsh _
  exact contract H enc W base args ds gs before hsh hlaid hval hW (hcond _ rfl)
theorem clo : Tryz.prog.closure 6 = [6, 16, 26, 43, 57, 97, 98, 153, 58, 99, 59, 100, 60, 101, 154, 155, 156, 210, 25, 42, 27, 17, 18, 28, 29, 44, 45, 61, 102, 46, 20, 31, 47, 68, 48, 69, 32, 33, 62, 103, 63, 50, 75, 114, 168, 167, 169, 171, 219, 170, 173, 221, 267, 220, 266, 269, 172, 76, 115, 116, 174, 175, 117, 222, 118, 136, 223, 268, 231, 181, 230, 224, 270, 315, 176, 177, 197, 243, 285, 244, 178, 225, 238, 274, 271, 316, 272, 71, 110, 161, 162, 64, 65, 104, 66, 30, 24, 35, 39, 14, 19, 34, 40, 53, 83, 124, 125, 185, 126, 186, 188, 187, 189, 180, 190, 239, 127, 84, 85, 128, 191, 131, 129, 192, 240, 241, 275, 317, 276, 318, 277, 278, 279, 130, 132, 193, 195, 194, 149, 133, 196, 242, 280, 281, 282, 283, 284, 319, 320, 346, 184, 237, 260, 134, 55, 90, 142, 143, 106, 144, 145, 159, 211, 257, 296, 258, 259, 297, 298, 146, 202, 203, 204, 91, 93, 92, 148, 147, 94, 150, 151, 205, 250, 287, 321, 322, 325, 357, 288, 323, 324, 347, 179, 226, 227, 228, 229, 370, 383, 384, 388, 391, 365, 378, 385, 389, 392, 401, 402, 404, 406, 407, 408, 409, 410, 405, 393, 394, 395, 396, 397, 386, 390, 398, 403, 399, 400, 371, 372, 348, 373, 349, 350, 351, 374, 375, 235, 352, 353, 354, 355, 356, 376, 377, 273, 251, 289, 326, 327, 328, 290, 252, 253, 291, 293, 292, 329, 95, 49, 70, 108, 109, 160, 107, 158, 72, 74, 113, 73, 111, 112, 163, 165, 214, 261, 299, 330, 358, 300, 301, 302, 262, 304, 331, 264, 312, 313, 314, 303, 305, 332, 265, 333, 334, 335, 359, 306, 336, 286, 360, 337, 338, 339, 361, 164, 213, 212, 166, 215, 216, 263, 307, 308, 207, 255, 294, 295, 256, 309, 340, 362, 379, 387, 363, 254, 341, 311, 310, 342, 364, 380, 343, 206, 366, 209, 367, 368, 152, 208, 344, 345, 369, 381, 382, 217, 218, 36, 51, 77, 78, 79, 119, 120, 80, 121, 182, 232, 233, 234, 183, 236, 122, 123, 52, 81, 82, 37, 38, 54, 87, 86, 135, 157, 88, 137, 198, 199, 245, 200, 89, 138, 139, 140, 141, 201, 246, 247, 248, 249, 41, 56, 96, 67, 105] := by kernel_rfl
theorem fc1 : (Rows.deskSplitsUptoRow.inPlace == Tryz.prog.inPlace 6) = true := by unfold Program.inPlace; rw [clo]; kernel_rfl
theorem fc2 : (Rows.deskSplitsUptoRow.unfollowed == Tryz.prog.unfollowed 6) = true := by unfold Program.unfollowed; rw [clo]; kernel_rfl
theorem fc3 : (Rows.deskSplitsUptoRow.recurses == Tryz.prog.recurses 6) = true := by unfold Program.recurses Program.unfollowed; rw [clo]; kernel_rfl
theorem fc4 : (Rows.deskSplitsUptoRow.named == Tryz.prog.varsNamed 6) = true := by unfold Program.varsNamed; rw [clo]; kernel_rfl
theorem closed : joinedFacts Tryz.prog 6 Tryz.f6 (Rows.OpenSpec.upto Rows.deskSplitsSpec).bare Rows.deskSplitsUptoRow = true := by
  unfold joinedFacts
  rw [fc1, fc2, fc3, fc4]
  kernel_rfl
theorem goes0 : Tryz.prog.goes 6 = false := by unfold Program.goes Program.unfollowed; rw [clo]; kernel_rfl
theorem goesB : false = Rows.deskSplitsUptoRow.goesBy Tryz.prog := by
  have hf : Tryz.prog.funcNamed "muslin/muslinlaw37.DeskSplits" = some 6 := by kernel_rfl
  have h : Rows.deskSplitsUptoRow.goesBy Tryz.prog = Tryz.prog.goesAt .entering "muslin/muslinlaw37.DeskSplits" := by kernel_rfl
  rw [h]
  unfold Program.goesAt Program.goesFrom
  rw [hf, Option.any_some, goes0]
  rfl
theorem over : Rows.DeskSplitsUptoSaid :=
  OpenClaim.holds_of_cond 6 Tryz.f6 rfl rfl rfl rfl rfl rfl rfl ⟨rfl, rfl, rfl, rfl, rfl⟩ rfl rfl rfl rfl rfl (by kernel_rfl) Tryz.func6 closed
    (of_decide_eq_true (by kernel_rfl)) (by unfold Func.isWrapper; first | (rw [if_pos (by decide +kernel)]; kernel_rfl) | (rw [if_neg (by decide +kernel)]; exact ⟨rfl, rfl⟩))
    (fun os started H enc _ F => by rw [OpenClaim.pre_eq_preRow]; exact lifted os started H enc F)
theorem plain (f : FuncId) (fn : Func) (hf : Tryz.pinned.checked.prog.funcNamed "muslin/muslinlaw37.DeskSplits" = some f) (hfn : Tryz.pinned.checked.prog.funcs[f]? = some fn) :
    true = Tryz.pinned.checked.prog.looks [] ∧ ∀ (j : Nat) t, fn.params[j]? = some t → Tryz.pinned.checked.prog.wantsStandIn t = false := by
  obtain rfl : f = 6 := Option.some.inj ((show Tryz.prog.funcNamed "muslin/muslinlaw37.DeskSplits" = some 6 by kernel_rfl).symm.trans hf) |>.symm
  obtain rfl : fn = Tryz.f6 := (Option.some.inj (Tryz.func6.symm.trans hfn)).symm
  refine ⟨by kernel_rfl, fun j t ht => ?_⟩
  have hm := Array.mem_of_getElem? ht
  have e : Tryz.f6.params = #[9] := by kernel_rfl
  rw [e] at hm
  have hall : (#[9] : Array TypeId).all (fun t => !Tryz.prog.wantsStandIn t) = true := by kernel_rfl
  rw [Array.all_eq_true_iff_forall_mem] at hall
  show Tryz.prog.wantsStandIn t = false
  simpa using hall t hm
theorem proved : Rows.DeskSplitsUptoCardSaid :=
  Claim7.holds_tied_plain_at .later [] _ _ _ _ over (fun _ h => by cases h) (by kernel_rfl) (fun _ h => by cases h) deskSplitsUpto_row_tie rfl ⟨rfl, rfl⟩ (by kernel_rfl) rfl plain goesB
end Go.Proofs.YtdhfdladheclgaaGreatDoor.rowDeskSplits
