/-
  Any place and error are told in decimals: muslinlaw36.DriverFaults answers true, whatever the input, where what it reads is of bulk at most 1048576; the card's listed tables are tied by the given tie.
-/
import Derived.Test.YtchpbmjhpeghoaaGreatDoorCards
import Derived.Test.YtchpbmjhpeghoaaGreatDoorTie
import Derived.Test.YtchpbmjhpeghoaaGreatDoorDF5
import Derived.WalkKit
import Derived.ProofKit
import Derived.OpenShut
import Derived.Shelf.Vars
import Derived.Deep.DeepHandedRow
import Derived.Deep.DeepWitnessRowRef
import Derived.Deep.DeepLaidRun
import Derived.Lib.LaidIn
set_option linter.unusedVariables false
set_option linter.unusedSimpArgs false
set_option maxRecDepth 100000
namespace Go.Mu
open Go Go.Proofs Go.Proofs.YtchpbmjhpeghoaaGreatDoor
abbrev rowF : FuncId := 5
theorem law_true {xs : List T} (h : HasTs Tryz.prog [3, 3] xs) (hs : T.sizes xs ≤ 1048576) : ∃ Hn, CallOK Tryz.prog rowF (xs.map argT) [] (.ret (.bool true) Hn) := by
  obtain ⟨x, xs, rfl, h1, h2⟩ := HasTs.cons_inv h
  obtain ⟨y, xs, rfl, h3, h4⟩ := HasTs.cons_inv h2
  obtain rfl := HasTs.nil_inv h4
  obtain ⟨n, rfl, hn⟩ := h1.int_inv (k := .i64) (by kernel_rfl)
  obtain ⟨m, rfl, hm⟩ := h3.int_inv (k := .i64) (by kernel_rfl)
  exact ⟨[], df_ok alive36_ok n m (int_ok hn) (int_ok hm)⟩

def rowTypes : List TypeId := [3]
/-- a table's cells -/
def cells0 {H : Type} : DataW H → List Value
  | .lit (.int k n) => [.int k n]
  | _ => []
def cells1 {H : Type} : DataW H → List Value
  | .agg ps => ps.flatMap cells0
  | _ => []
def cells2 {H : Type} : DataW H → List Value
  | .agg ps => ps.flatMap cells1
  | _ => []
/-- the package-level variables that Mu knows hold what it knows of them -/
theorem glob_ok {W : World} (h : W.ShapedOpen Tryz.prog) (hl : laidMetH Tryz.prog Rows.driverFaultsUptoRow.laid W) : GlobOK W (oldB W) := by
  have hl' : laidMet Tryz.prog Rows.driverFaultsUptoRow.laid W := hl
  have e1 : Rows.laid_unicode_utf8_first = Lib.firstData := by kernel_rfl
  have e2 : (Rows.laid_unicode_utf8_acceptRanges : DataW Unit) = Lib.acceptData := by kernel_rfl
  have e3 : (Rows.laid_strings_asciiSpace : DataW Unit) = Lib.tabData .u8 Lib.asciiSpaceTab := by kernel_rfl
  refine ⟨fun g k hg => ?_, tabs_glob hl' (by rw [← e1]; exact .tail _ (.tail _ (.tail _ (.head _)))) (by rw [← e2]; exact .head _) (by rw [← e3]; exact .tail _ (.tail _ (.head _)))⟩
  obtain ⟨rfl, rfl⟩ : g = 0 ∧ k = .i64 := by
    unfold gints at hg
    split at hg
    · rename_i e
      simp only [Option.some.injEq] at hg
      exact ⟨by simpa using e, hg.symm⟩
    · cases hg
  have hm := cell_of_shapedOpen_int (P := Tryz.prog) (g := 0) (t := 3) (zero := #[.int .i64 0]) h (of_decide_eq_true (by kernel_rfl)) (by kernel_rfl) rfl (by kernel_rfl) (by kernel_rfl) Tryz.underlying3
  refine ⟨?_, hm⟩
  obtain ⟨m, hm⟩ := hm
  show 0 < W.heap.size
  unfold World.cell? at hm
  by_cases hlt : 0 < W.heap.size
  · exact hlt
  · rw [Array.getElem?_eq_none (by omega)] at hm
    simp at hm
end Go.Mu

namespace Go.Proofs.YtchpbmjhpeghoaaGreatDoor.rowDriverFaults
open Go.ChangeShapes Go.WideShapes Go.ChangeAt Go.RowKit Go.Mu
theorem own : ownKnob Tryz.prog.godebug = none := by kernel_rfl
theorem contract (H : Type) (enc : TypeId × Value → H) (W : World) (base : Nat) (args : Array Value) (ds gs : List (DataW H)) (before : List MemPlace) (hsh : W.ShapedOpen Tryz.prog) (hlaid : laidMetH Tryz.prog Rows.driverFaultsUptoRow.laid W)
    (hval : ∀ (j : Nat) t v, Tryz.f5.params[j]? = some t → args[j]? = some v → Value.okWide Tryz.prog W .any base t v)
    (hW : DataW.Whole enc Tryz.prog Tryz.f5.params.toList Rows.driverFaultsSpec.vars false W args.toList ds gs before) (hk : Rows.uptoSmall H (ds ++ gs) = true) :
    Calls Tryz.prog 5 args W fun e W' => ∃ v, e = .returned v ∧ Rows.driverFaultsSpec.post enc Tryz.prog Tryz.f5 false true false false W args v W' := by
  have hW' := hW
  obtain ⟨p, q, hA, hV, rfl, hfz, hnd⟩ := hW'
  have hgs : gs = [] := by
    cases gs with
    | nil => rfl
    | cons g gs => exact hV.elim
  subst hgs
  rw [List.append_nil] at hk
  have hsz := small_size hk
  refine row_true (ts := rowTypes) (by kernel_rfl) (f := 5) (fn := Tryz.f5) (s := Rows.driverFaultsSpec) (tb := 4) (glob_ok hsh hlaid) (by kernel_rfl) rfl (by kernel_rfl) (by kernel_rfl) hval hW (fun d hd _ hl => ?_) (fun ht => law_true ht hsz)
  match d, hl with
  | [d1, d2], _ => exact ⟨rfl, rfl, rfl⟩
/-- a world for the witness: the tables hold what their text lays -/
noncomputable def laidWorld (os : Os) : World :=
  let N := (World.settled Tryz.prog os).heap.size
  let w := World.holding Tryz.prog os ⟨#[.cells (Lib.whiteT.map fun (z : Nat) => Value.int .u16 (z : Int)).toArray 419, .cells #[.slice (some ⟨N, 0, none⟩) 7 7, .slice none 0 0, .int .i64 2] 416], #[], []⟩
  { w with heap := (((w.heap.modify 1 fun
      | .cells _ t frozen => .cells (cells1 Go.Pinned.utf8First).toArray t frozen
      | o => o).modify 2 fun
      | .cells _ t frozen => .cells (cells2 (Rows.laid_unicode_utf8_acceptRanges (H := Unit))).toArray t frozen
      | o => o).modify 3 fun
      | .cells _ t frozen => .cells (Lib.asciiSpaceTab.map fun z => Value.int .u8 z).toArray t frozen
      | o => o).modify 4 fun
      | .cells _ t frozen => .cells #[.pointer (some ⟨N + 1, 0, none⟩)] t frozen
      | o => o }
abbrev wArgs : Array Value := #[.int .i64 0, .int .i64 0]
theorem piece0 (os : Os) : LaidIn Tryz.prog ((laidWorld os).forCall (fun _ _ => 0) ⟨#[], wArgs, []⟩).memory [("unicode/utf8.acceptRanges", Rows.laid_unicode_utf8_acceptRanges)] [2] :=
  LaidIn.of_run [2] 10 (by kernel_rfl) (by kernel_rfl) (by kernel_rfl) (by kernel_rfl)
theorem piece1 (os : Os) : LaidIn Tryz.prog ((laidWorld os).forCall (fun _ _ => 0) ⟨#[], wArgs, []⟩).memory [("unicode.White_Space", Rows.laid_unicode_White_Space)] [4, (World.settled Tryz.prog default).heap.size + 1, (World.settled Tryz.prog default).heap.size] :=
  LaidIn.of_run [4, (World.settled Tryz.prog default).heap.size + 1, (World.settled Tryz.prog default).heap.size] 10 (by kernel_rfl) (by kernel_rfl) (by kernel_rfl) (by kernel_rfl)
theorem piece2 (os : Os) : LaidIn Tryz.prog ((laidWorld os).forCall (fun _ _ => 0) ⟨#[], wArgs, []⟩).memory [("strings.asciiSpace", Rows.laid_strings_asciiSpace)] [3] :=
  LaidIn.of_run [3] 10 (by kernel_rfl) (by kernel_rfl) (by kernel_rfl) (by kernel_rfl)
theorem piece3 (os : Os) : LaidIn Tryz.prog ((laidWorld os).forCall (fun _ _ => 0) ⟨#[], wArgs, []⟩).memory [("unicode/utf8.first", Rows.laid_unicode_utf8_first)] [1] :=
  LaidIn.of_run [1] 10 (by kernel_rfl) (by kernel_rfl) (by kernel_rfl) (by kernel_rfl)
theorem wit1 (os : Os) : ((laidWorld os).forCall (fun _ _ => 0) ⟨#[], wArgs, []⟩).variablesRefB Tryz.checked.prog = true := by kernel_rfl
theorem wit2 (os : Os) : (((laidWorld os).forCall (fun _ _ => 0) ⟨#[], wArgs, []⟩).heap.toList.drop Tryz.checked.prog.globals.size).take ((begin Tryz.checked.prog (fun _ _ => 0) default).world.heap.size - Tryz.checked.prog.globals.size) =
      (begin Tryz.checked.prog (fun _ _ => 0) default).world.heap.toList.drop Tryz.checked.prog.globals.size := by kernel_rfl
theorem wit3 (os : Os) : Input.okWideB Tryz.checked.prog ((laidWorld os).forCall (fun _ _ => 0) ⟨#[], wArgs, []⟩) 5 ⟨#[], wArgs, []⟩ = true := by kernel_rfl
theorem laid_met (os : Os) : laidMet Tryz.prog Rows.driverFaultsUptoRow.laid ((laidWorld os).forCall (fun _ _ => 0) ⟨#[], wArgs, []⟩).memory :=
  ((((piece0 os).append (piece1 os) (by kernel_rfl)).append (piece2 os) (by kernel_rfl)).append (piece3 os) (by kernel_rfl)).met
theorem reads (os : Os) {H : Type} (enc : TypeId × Value → H) : ∃ places, DataW.whole enc Tryz.prog ((laidWorld os).forCall (fun _ _ => 0) ⟨#[], wArgs, []⟩).memory Tryz.f5.params.toList Rows.driverFaultsSpec.vars false wArgs.toList 8 = some ([.lit (.int .i64 0), .lit (.int .i64 0)], [], places) :=
  ⟨[], by kernel_rfl⟩
set_option maxRecDepth 100000 in
theorem lifted (os : Os) (started : os.Started) (H : Type) (enc : TypeId × Value → H) (F : Stop.Interp) :
    ReturnsInHanded {} Tryz.checked os 5 .any ((Rows.OpenSpec.upto Rows.driverFaultsSpec).preRow enc Tryz.prog Tryz.f5 Rows.driverFaultsUptoRow.domain false Rows.driverFaultsUptoRow.laid) (((Rows.OpenSpec.upto Rows.driverFaultsSpec).at F).post enc Tryz.prog Tryz.f5 false true false false) := by
  obtain ⟨places, hx⟩ := reads os enc
  refine returnsInHanded_of_row (C := Tryz.checked) (s := Rows.OpenSpec.upto Rows.driverFaultsSpec) own started (by kernel_rfl) Tryz.func5
    (witness_row_atRef (enc := enc) (C := Tryz.checked) false (laidWorld os) wArgs rfl (wit1 os) (wit2 os) (wit3 os)
      (OpenSpec.preRow_of_cond 8 hx (by kernel_rfl) (fun k hk => by cases hk; kernel_rfl) (by kernel_rfl) (laid_met os))) ?_
  intro W base args ds gs before hval hW _ hcond _ hlaid hsh _
  exact contract H enc W base args ds gs before hsh hlaid hval hW (hcond _ rfl)
theorem clo : Tryz.prog.closure 5 = [5, 13, 15, 6, 14, 20, 25, 35, 49, 79, 130, 129, 131, 133, 187, 132, 135, 190, 243, 188, 241, 189, 242, 103, 166, 218, 245, 209, 208, 134, 50, 80, 81, 136, 146, 206, 137, 82, 191, 83, 102, 32, 42, 192, 244, 200, 143, 199, 193, 246, 292, 22, 23, 138, 139, 164, 216, 262, 217, 140, 194, 211, 251, 247, 293, 248, 45, 75, 123, 124, 29, 24, 30, 38, 57, 89, 90, 148, 210, 250, 91, 149, 150, 92, 151, 153, 152, 154, 142, 155, 212, 156, 93, 58, 59, 94, 157, 97, 95, 158, 213, 214, 252, 294, 253, 295, 254, 255, 256, 96, 159, 98, 160, 162, 161, 116, 99, 163, 215, 257, 258, 259, 260, 261, 296, 297, 324, 348, 362, 368, 373, 369, 374, 147, 207, 235, 100, 40, 64, 109, 110, 71, 111, 112, 121, 179, 232, 273, 233, 234, 274, 307, 275, 113, 171, 172, 224, 173, 65, 67, 66, 115, 114, 68, 117, 118, 174, 225, 264, 298, 299, 302, 335, 265, 300, 301, 325, 141, 195, 196, 197, 198, 349, 363, 364, 370, 375, 343, 357, 365, 371, 376, 385, 386, 388, 390, 391, 392, 393, 394, 389, 377, 378, 379, 380, 381, 366, 372, 382, 387, 383, 384, 350, 351, 326, 352, 327, 328, 329, 353, 354, 204, 330, 331, 332, 333, 334, 355, 356, 249, 226, 266, 303, 304, 305, 267, 227, 228, 268, 270, 269, 306, 69, 34, 44, 73, 74, 122, 72, 120, 46, 48, 78, 47, 76, 77, 125, 127, 182, 236, 276, 308, 336, 277, 278, 279, 237, 281, 309, 239, 289, 290, 291, 16, 21, 33, 43, 280, 282, 310, 240, 311, 312, 313, 337, 283, 314, 263, 338, 315, 316, 317, 339, 126, 181, 180, 128, 183, 184, 238, 284, 285, 176, 230, 271, 272, 231, 286, 318, 340, 358, 367, 341, 229, 319, 288, 287, 320, 342, 359, 321, 175, 344, 178, 345, 346, 119, 177, 322, 323, 347, 360, 361, 185, 186, 26, 36, 51, 52, 53, 84, 85, 54, 86, 144, 201, 202, 203, 145, 205, 87, 88, 37, 55, 56, 27, 28, 39, 61, 60, 101, 165, 62, 104, 167, 168, 219, 169, 63, 105, 106, 107, 108, 170, 220, 221, 222, 223, 31, 41, 70] := by kernel_rfl
theorem fc1 : (Rows.driverFaultsUptoRow.inPlace == Tryz.prog.inPlace 5) = true := by unfold Program.inPlace; rw [clo]; kernel_rfl
theorem fc2 : (Rows.driverFaultsUptoRow.unfollowed == Tryz.prog.unfollowed 5) = true := by unfold Program.unfollowed; rw [clo]; kernel_rfl
theorem fc3 : (Rows.driverFaultsUptoRow.recurses == Tryz.prog.recurses 5) = true := by unfold Program.recurses Program.unfollowed; rw [clo]; kernel_rfl
theorem fc4 : (Rows.driverFaultsUptoRow.named == Tryz.prog.varsNamed 5) = true := by unfold Program.varsNamed; rw [clo]; kernel_rfl
theorem closed : joinedFacts Tryz.prog 5 Tryz.f5 (Rows.OpenSpec.upto Rows.driverFaultsSpec).bare Rows.driverFaultsUptoRow = true := by
  unfold joinedFacts
  rw [fc1, fc2, fc3, fc4]
  kernel_rfl
theorem goes0 : Tryz.prog.goes 5 = false := by unfold Program.goes Program.unfollowed; rw [clo]; kernel_rfl
theorem goesB : false = Rows.driverFaultsUptoRow.goesBy Tryz.prog := by
  have hf : Tryz.prog.funcNamed "muslin/muslinlaw36.DriverFaults" = some 5 := by kernel_rfl
  have h : Rows.driverFaultsUptoRow.goesBy Tryz.prog = Tryz.prog.goesAt .entering "muslin/muslinlaw36.DriverFaults" := by kernel_rfl
  rw [h]
  unfold Program.goesAt Program.goesFrom
  rw [hf, Option.any_some, goes0]
  rfl
theorem over : Rows.DriverFaultsUptoSaid :=
  OpenClaim.holds_of_cond 5 Tryz.f5 rfl rfl rfl rfl rfl rfl rfl ⟨rfl, rfl, rfl, rfl, rfl⟩ rfl rfl rfl rfl rfl (by kernel_rfl) Tryz.func5 closed
    (of_decide_eq_true (by kernel_rfl)) (by unfold Func.isWrapper; first | (rw [if_pos (by decide +kernel)]; kernel_rfl) | (rw [if_neg (by decide +kernel)]; exact ⟨rfl, rfl⟩))
    (fun os started H enc _ F => by rw [OpenClaim.pre_eq_preRow]; exact lifted os started H enc F)
theorem plain (f : FuncId) (fn : Func) (hf : Tryz.pinned.checked.prog.funcNamed "muslin/muslinlaw36.DriverFaults" = some f) (hfn : Tryz.pinned.checked.prog.funcs[f]? = some fn) :
    true = Tryz.pinned.checked.prog.looks [] ∧ ∀ (j : Nat) t, fn.params[j]? = some t → Tryz.pinned.checked.prog.wantsStandIn t = false := by
  obtain rfl : f = 5 := Option.some.inj ((show Tryz.prog.funcNamed "muslin/muslinlaw36.DriverFaults" = some 5 by kernel_rfl).symm.trans hf) |>.symm
  obtain rfl : fn = Tryz.f5 := (Option.some.inj (Tryz.func5.symm.trans hfn)).symm
  refine ⟨by kernel_rfl, fun j t ht => ?_⟩
  have hm := Array.mem_of_getElem? ht
  have e : Tryz.f5.params = #[3, 3] := by kernel_rfl
  rw [e] at hm
  have hall : (#[3, 3] : Array TypeId).all (fun t => !Tryz.prog.wantsStandIn t) = true := by kernel_rfl
  rw [Array.all_eq_true_iff_forall_mem] at hall
  show Tryz.prog.wantsStandIn t = false
  simpa using hall t hm
theorem proved : Rows.DriverFaultsUptoCardSaid :=
  Claim7.holds_tied_plain_at .later [] _ _ _ _ over (fun _ h => by cases h) (by kernel_rfl) (fun _ h => by cases h) driverFaultsUpto_row_tie rfl ⟨rfl, rfl⟩ (by kernel_rfl) rfl plain goesB
end Go.Proofs.YtchpbmjhpeghoaaGreatDoor.rowDriverFaults
