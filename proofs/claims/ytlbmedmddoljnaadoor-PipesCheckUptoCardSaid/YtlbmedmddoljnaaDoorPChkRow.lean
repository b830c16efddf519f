/-
  Whether any pipeline may be, and is another one, are as the page says: muslinlaw19.PipesCheck answers true, whatever the input, where what it reads is of bulk at most 1048576; the card's listed tables are tied by the given tie.
-/
import Derived.Test.YtlbmedmddoljnaaDoorCards
import Derived.Test.YtlbmedmddoljnaaDoorTie
import Derived.Test.YtlbmedmddoljnaaDoorPChkAlive
import Derived.Test.YtlbmedmddoljnaaDoorPTree
import Derived.Test.YtlbmedmddoljnaaDoorBulk
import Derived.WalkKit
import Derived.ProofKit
import Derived.OpenShut
import Derived.Deep.DeepHandedRow
set_option linter.unusedVariables false
set_option linter.unusedSimpArgs false
set_option maxRecDepth 100000
namespace Go.Mu
open Go Go.Proofs
noncomputable abbrev pT1 (fa : Bool) (a : List CallD) : Bool := tst (encPipe fa a = encPipe (fullOf (encPipe fa a)) (decL decCall (encPipe fa a)) ∧ okPipe (decL decCall (encPipe fa a)))
noncomputable abbrev pT2 (fa fb : Bool) (a b : List CallD) : Bool := tst (encPipe fa a = encPipe (fullOf (encPipe fa a)) (decL decCall (encPipe fa a)) ∧ encPipe fb b = encPipe (fullOf (encPipe fb b)) (decL decCall (encPipe fb b)) ∧ okPipe (decL decCall (encPipe fa a)) ∧ okPipe (decL decCall (encPipe fb b)))
abbrev pD (fa : Bool) (a : List CallD) : List CallD := decL decCall (encPipe fa a)
theorem law_funP (fa fb : Bool) (a b : List CallD) (k : Out → Ans) : iFun Tryd.prog (layPL.hd Tryd.prog) layPL.fhs 0 7 [encPipe fa a, encPipe fb b] [] k =
    cond (pT1 fa a) (cond (pT1 fa a) (cond (pT2 fa fb a b) (cond (pT2 fa fb a b) (cond (pT2 fa fa a a)
      (k (.ret (.bool (cond (cond (cond (((cond (pipeB (pD fa a)) (0 : Int) 9) == 0) == pipeB (pD fa a)) (pipeEq (pD fa a) (pD fb b) == pipeEq (pD fa a) (pD fb b)) false) (pipeEq (pD fa a) (pD fa a)) false) true false)) [])) none) none) none) none) none := by kernel_rfl
theorem pipeEq_refl' (a : List CallD) : pipeEq a a = true := by
  have hs : ∀ l : List (List UInt8), all2 eqS l l = true := fun l => all2_refl l (fun x _ => by simp [eqS])
  have ha : ∀ x : ArgD, argEq x x = true := fun x => by simp [argEq, hs]
  have hc : ∀ c : CallD, callEq c c = true := fun c => by simp [callEq, all2_refl c.args (fun x _ => ha x)]
  exact all2_refl a (fun x _ => hc x)
theorem law_callP {fa fb : Bool} {a b : List CallD} (ha : okPipe a) (hb : okPipe b) (k : Out → Ans) : iFun Tryd.prog (layPL.hd Tryd.prog) layPL.fhs 0 7 [encPipe fa a, encPipe fb b] [] k = k (.ret (.bool true) []) := by
  have ed : ∀ f l, pD f l = l := fun f l => decL_encL decCall_enc l
  have e1 : pT1 fa a = true := by unfold pT1; rw [show decL decCall (encPipe fa a) = a from ed fa a]; exact tst_true ⟨rfl, ha⟩
  have e2 : pT2 fa fb a b = true := by unfold pT2; rw [show decL decCall (encPipe fa a) = a from ed fa a, show decL decCall (encPipe fb b) = b from ed fb b]; exact tst_true ⟨rfl, rfl, ha, hb⟩
  have e3 : pT2 fa fa a a = true := by unfold pT2; rw [show decL decCall (encPipe fa a) = a from ed fa a]; exact tst_true ⟨rfl, rfl, ha, ha⟩
  rw [law_funP, e1, e2, e3, ed, ed, pipeEq_refl']
  cases pipeB a <;> cases pipeEq a b <;> rfl
theorem law_trueP {xs : List T} (h : HasTs Tryd.prog [38, 38] xs) (hs : T.sizes xs ≤ 1048576) : ∃ Hn, CallOK Tryd.prog 7 (xs.map argT) [] (.ret (.bool true) Hn) := by
  obtain ⟨x, xs, rfl, h1, h2⟩ := HasTs.cons_inv h
  obtain ⟨y, xs, rfl, hy, h3⟩ := HasTs.cons_inv h2
  obtain rfl := HasTs.nil_inv h3
  obtain ⟨fa, a, rfl, ha⟩ := h1.slice_inv (e := 43) (by kernel_rfl)
  obtain ⟨fb, b, rfl, hb⟩ := hy.slice_inv (e := 43) (by kernel_rfl)
  simp only [T.sizes, T.size] at hs
  obtain ⟨s1, o1⟩ := pipe_T (full := fa) ha (by omega)
  obtain ⟨s2, o2⟩ := pipe_T (full := fb) hb (by omega)
  have ea : ∀ f es, argT (.l f es) = .list f es.length (T.encAt es) := fun f es => by simp [argT, T.enc]
  refine ⟨[], ?_⟩
  rw [List.map_cons, List.map_cons, List.map_nil, ea, ea]
  exact (layPL_ok.call (law_callP o1 o2)).subArgs (.cons s1 (.cons s2 .nil))
def pipeTypes : List TypeId := [38, 43, 9, 41, 46, 3, 44]
/-- a table's cells -/
def cells0 {H : Type} : DataW H → List Value
  | .lit (.int k n) => [.int k n]
  | _ => []
def cells1 {H : Type} : DataW H → List Value
  | .agg ps => ps.flatMap cells0
  | _ => []
def cells2 {H : Type} : DataW H → List Value
  | .agg ps => ps.flatMap cells1
  | _ => []
end Go.Mu

namespace Go.Proofs.YtlbmedmddoljnaaDoor.rowPipes
open Go.ChangeShapes Go.WideShapes Go.ChangeAt Go.RowKit Go.Mu
theorem own : ownKnob Tryd.prog.godebug = none := by kernel_rfl
theorem contract (H : Type) (enc : TypeId × Value → H) (W : World) (base : Nat) (args : Array Value) (ds gs : List (DataW H)) (before : List MemPlace)
    (hval : ∀ (j : Nat) t v, Tryd.f7.params[j]? = some t → args[j]? = some v → Value.okWide Tryd.prog W .any base t v)
    (hW : DataW.Whole enc Tryd.prog Tryd.f7.params.toList Rows.pipesCheckSpec.vars false W args.toList ds gs before) (hk : Rows.uptoSmall H (ds ++ gs) = true) :
    Calls Tryd.prog 7 args W fun e W' => ∃ v, e = .returned v ∧ Rows.pipesCheckSpec.post enc Tryd.prog Tryd.f7 false true false false W args v W' := by
  have hW' := hW
  obtain ⟨p, q, hA, hV, rfl, hfz, hnd⟩ := hW'
  have hgs : gs = [] := by
    cases gs with
    | nil => rfl
    | cons g gs => exact hV.elim
  subst hgs
  rw [List.append_nil] at hk
  have hsz := small_size hk
  refine row_true (ts := pipeTypes) (by kernel_rfl) (f := 7) (fn := Tryd.f7) (s := Rows.pipesCheckSpec) (tb := 4) (by kernel_rfl) rfl (by kernel_rfl) (by kernel_rfl) hval hW (fun d hd _ hl => ?_) (fun ht => law_trueP ht hsz)
  match d, hl with
  | [d1, d2], _ => exact ⟨rfl, rfl, rfl⟩
/-- a world for the witness: the tables hold what their text lays -/
noncomputable def laidWorld (os : Os) : World :=
  let w := World.holding Tryd.prog os ⟨#[], #[], []⟩
  { w with heap := (w.heap.modify 1 fun
      | .cells _ t frozen => .cells (cells1 Go.Pinned.utf8First).toArray t frozen
      | o => o).modify 2 fun
      | .cells _ t frozen => .cells (cells2 (Rows.laid_unicode_utf8_acceptRanges (H := Unit))).toArray t frozen
      | o => o }
abbrev wArgs : Array Value := #[.slice none 0 0, .slice none 0 0]
theorem laid_met (os : Os) : laidMet Tryd.prog Rows.pipesCheckUptoRow.laid ((laidWorld os).forCall (fun _ _ => 0) ⟨#[], wArgs, []⟩).memory :=
  laidMet_of_run' 8 (by kernel_rfl) (by kernel_rfl)
theorem reads (os : Os) {H : Type} (enc : TypeId × Value → H) : ∃ places, DataW.whole enc Tryd.prog ((laidWorld os).forCall (fun _ _ => 0) ⟨#[], wArgs, []⟩).memory Tryd.f7.params.toList Rows.pipesCheckSpec.vars false wArgs.toList 8 = some ([.nil, .nil], [], places) :=
  ⟨[], by kernel_rfl⟩
set_option maxRecDepth 100000 in
theorem lifted (os : Os) (started : os.Started) (H : Type) (enc : TypeId × Value → H) (F : Stop.Interp) :
    ReturnsInHanded {} Tryd.checked os 7 .any ((Rows.OpenSpec.upto Rows.pipesCheckSpec).preRow enc Tryd.prog Tryd.f7 Rows.pipesCheckUptoRow.domain false Rows.pipesCheckUptoRow.laid) (((Rows.OpenSpec.upto Rows.pipesCheckSpec).at F).post enc Tryd.prog Tryd.f7 false true false false) := by
  obtain ⟨places, hx⟩ := reads os enc
  refine returnsInHanded_of_row (C := Tryd.checked) (s := Rows.OpenSpec.upto Rows.pipesCheckSpec) own started (by kernel_rfl) Tryd.func7
    (witness_row_at (enc := enc) (C := Tryd.checked) false (laidWorld os) wArgs rfl (by kernel_rfl) (by kernel_rfl) (by kernel_rfl)
      (OpenSpec.preRow_of_cond 8 hx (by kernel_rfl) (fun k hk => by cases hk; kernel_rfl) (by kernel_rfl) (laid_met os))) ?_
  intro W base args ds gs before hval hW _ hcond _ _ _ _
  exact contract H enc W base args ds gs before hval hW (hcond _ rfl)
theorem over : Rows.PipesCheckUptoSaid :=
  OpenClaim.holds_of_cond 7 Tryd.f7 rfl rfl rfl rfl rfl rfl rfl ⟨rfl, rfl, rfl, rfl, rfl⟩ rfl rfl rfl rfl rfl (by kernel_rfl) Tryd.func7 (by kernel_rfl)
    (of_decide_eq_true (by kernel_rfl)) (by unfold Func.isWrapper; first | (rw [if_pos (by decide +kernel)]; kernel_rfl) | (rw [if_neg (by decide +kernel)]; exact ⟨rfl, rfl⟩))
    (fun os started H enc _ F => by rw [OpenClaim.pre_eq_preRow]; exact lifted os started H enc F)
theorem plain (f : FuncId) (fn : Func) (hf : Tryd.pinned.checked.prog.funcNamed "muslin/muslinlaw19.PipesCheck" = some f) (hfn : Tryd.pinned.checked.prog.funcs[f]? = some fn) :
    true = Tryd.pinned.checked.prog.looks [] ∧ ∀ (j : Nat) t, fn.params[j]? = some t → Tryd.pinned.checked.prog.wantsStandIn t = false := by
  obtain rfl : f = 7 := Option.some.inj ((show Tryd.prog.funcNamed "muslin/muslinlaw19.PipesCheck" = some 7 by kernel_rfl).symm.trans hf) |>.symm
  obtain rfl : fn = Tryd.f7 := (Option.some.inj (Tryd.func7.symm.trans hfn)).symm
  refine ⟨by kernel_rfl, fun j t ht => ?_⟩
  have hm := Array.mem_of_getElem? ht
  have e : Tryd.f7.params = #[38, 38] := by kernel_rfl
  rw [e] at hm
  obtain rfl : t = 38 := by simpa using hm
  exact (show Tryd.prog.wantsStandIn 38 = false by kernel_rfl)
theorem proved : Rows.PipesCheckUptoCardSaid :=
  Claim7.holds_tied_plain_at .later [] _ _ _ _ over (fun _ h => by cases h) (by kernel_rfl) (fun _ h => by cases h) pipesCheckUpto_row_tie rfl ⟨rfl, rfl⟩ (by kernel_rfl) rfl plain (by kernel_rfl)
end Go.Proofs.YtlbmedmddoljnaaDoor.rowPipes
