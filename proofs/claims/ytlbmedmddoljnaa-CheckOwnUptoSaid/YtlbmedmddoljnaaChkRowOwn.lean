/-
  Lists that check.Names tells share nothing with what was handed in, or with each other: muslinlaw22.CheckOwn answers true, whatever the input, where what it reads is of bulk at most 1048576.
-/
import Derived.Test.YtlbmedmddoljnaaRows
import Derived.Test.YtlbmedmddoljnaaChkOwn
import Derived.Test.YtlbmedmddoljnaaBulk
import Derived.WalkKit
import Derived.ProofKit
import Derived.OpenShut
import Derived.JoinedCond
set_option linter.unusedVariables false
set_option maxRecDepth 100000
namespace Go.Mu
open Go Go.Proofs
theorem own_fun0 (F : Nat) (full : Bool) (nm : Nat → List UInt8) (bd : Nat → AVal) (k : Out → Ans) : iFun Try.prog (hd ownTab) (only 4 ownFH) F 4 [defsA full 0 nm bd] [] k = k (.ret (.bool true) []) := by kernel_rfl
theorem own_fun (F n : Nat) (full : Bool) (nm : Nat → List UInt8) (bd : Nat → AVal) (k : Out → Ans) : iFun Try.prog (hd ownTab) (only 4 ownFH) F 4 [defsA full (n + 1) nm bd] [] k =
    cond (decide (n + 1 ≤ 1048576) && true && okDefs (n + 1) (fun i => [.str (nm i), bd i])) (cond (decide (n + 1 ≤ 1048576) && true && okDefs (n + 1) (fun i => [.str (nm i), bd i]))
      (cond ((n == n && (namesRows nm (n + 1)).length == (n + 1) && decide (n + 1 ≤ 1048576) && (namesRows nm (n + 1)).all (fun r => r.length == 1)) && true)
        (cond ((n == n && (n + 1) == (n + 1) && (namesRows nm (n + 1)).length == (n + 1) && decide (n + 1 ≤ 1048576) && okDefs (n + 1) (fun i => [.str (nm i), bd i])) && rowsAre (n + 1) (fun i => [.str (nm i), bd i]) (namesRows nm (n + 1)) && true)
          (k (.ret (.bool (((n + 1 : Nat) : Int) == ((n + 1 : Nat) : Int))) [.arr 1 (List.replicate (n + 1) [spoilt]) n, .arr 1 (namesRows nm (n + 1)) n])) none) none) none) none := by kernel_rfl
theorem rowsAre_names (nm : Nat → List UInt8) (bd : Nat → AVal) (n : Nat) : rowsAre n (fun i => [.str (nm i), bd i]) (namesRows nm n) = true := by
  simp only [rowsAre, List.all_eq_true, List.mem_range]
  intro i hi
  have : (namesRows nm n).getD i [] = [.str (nm i)] := by
    simp [namesRows, List.getD_eq_getElem?_getD, List.getElem?_range hi]
  rw [this]
  simp [nmOf, strOf]
theorem own_call {n : Nat} {full : Bool} {nm : Nat → List UInt8} {bd : Nat → AVal} (hn : n ≤ 1048576) : ∃ Hn, CallOK Try.prog 4 [defsA full n nm bd] [] (.ret (.bool true) Hn) := by
  cases n with
  | zero => exact ⟨_, callOK_told ownTab_ok (own_told ownTab_ok) (F := 0) (own_fun0 0 full nm bd)⟩
  | succ n =>
    refine ⟨[.arr 1 (List.replicate (n + 1) [spoilt]) n, .arr 1 (namesRows nm (n + 1)) n], callOK_told ownTab_ok (own_told ownTab_ok) (F := 0) (o := .ret (.bool true) [.arr 1 (List.replicate (n + 1) [spoilt]) n, .arr 1 (namesRows nm (n + 1)) n]) (fun k => ?_)⟩
    rw [own_fun, okDefs_mk, rowsAre_names, namesRows_len, decide_eq_true hn]
    have : (namesRows nm (n + 1)).all (fun r => r.length == 1) = true := by simp [namesRows]
    rw [this]
    simp only [beq_self_eq_true, Bool.and_self, cond_true]
theorem def_inv {x : T} (h : HasT Try.prog 35 x) : ∃ nm f body, x = .r [.s nm, .l f body] ∧ ∀ y ∈ body, HasT Try.prog 61 y := by
  obtain ⟨parts, rfl, hp⟩ := h.struct_inv Try.underlying35
  obtain ⟨x, xs, rfl, h1, hp⟩ := HasTs.cons_inv hp
  obtain ⟨y, ys, rfl, h2, hp⟩ := HasTs.cons_inv hp
  obtain rfl := HasTs.nil_inv hp
  obtain ⟨s, rfl⟩ := h1.str_inv (by kernel_rfl)
  obtain ⟨f, es, rfl, h3⟩ := h2.slice_inv (by kernel_rfl)
  exact ⟨_, _, _, rfl, h3⟩
theorem defs_ok {es : List T} (h : ∀ y ∈ es, HasT Try.prog 35 y) : okDefs es.length (T.encAt es) = true := by
  simp only [okDefs, List.all_eq_true, List.mem_range]
  intro i hi
  rw [T.encAt_get es i es[i] (List.getElem?_eq_getElem hi)]
  obtain ⟨nm, f, body, e, _⟩ := def_inv (h _ (List.getElem_mem hi))
  rw [e]
  simp [T.enc, T.encAll]
theorem own_true {xs : List T} (h : HasTs Try.prog [23] xs) (hs : T.sizes xs ≤ 1048576) : ∃ Hn, CallOK Try.prog 4 (xs.map argT) [] (.ret (.bool true) Hn) := by
  obtain ⟨x, xs, rfl, h1, h2⟩ := HasTs.cons_inv h
  obtain rfl := HasTs.nil_inv h2
  obtain ⟨full, es, rfl, h3⟩ := h1.slice_inv (by kernel_rfl)
  have hl : es.length ≤ 1048576 := by
    have := T.length_sizes es
    simp only [T.sizes, T.size] at hs
    omega
  obtain ⟨Hn, hc⟩ := own_call (full := full) (nm := nmOf (T.encAt es)) (bd := bdOf (T.encAt es)) hl
  exact ⟨Hn, hc.subArgs (.cons (okDefs_sub (defs_ok h3)) .nil)⟩
def ownTypes : List TypeId := [23, 35, 9, 33, 61, 3, 51, 59, 57, 56, 31]
end Go.Mu

namespace Go.Proofs.Ytlbmedmddoljnaa.rowOwn
open Go.ChangeShapes Go.WideShapes Go.ChangeAt Go.RowKit Go.Mu
theorem own : ownKnob Try.prog.godebug = none := by kernel_rfl
theorem contract (H : Type) (enc : TypeId × Value → H) (W : World) (base : Nat) (args : Array Value) (ds gs : List (DataW H)) (before : List MemPlace)
    (hval : ∀ (j : Nat) t v, Try.f4.params[j]? = some t → args[j]? = some v → Value.okWide Try.prog W .any base t v)
    (hW : DataW.Whole enc Try.prog Try.f4.params.toList Rows.checkOwnSpec.vars false W args.toList ds gs before) (hk : Rows.uptoSmall H (ds ++ gs) = true) :
    Calls Try.prog 4 args W fun e W' => ∃ v, e = .returned v ∧ Rows.checkOwnSpec.post enc Try.prog Try.f4 false true false false W args v W' := by
  have hW' := hW
  obtain ⟨p, q, hA, hV, rfl, hfz, hnd⟩ := hW'
  have hgs : gs = [] := by
    cases gs with
    | nil => rfl
    | cons g gs => exact hV.elim
  subst hgs
  rw [List.append_nil] at hk
  have hsz := small_size hk
  refine row_true (ts := ownTypes) (by kernel_rfl) (f := 4) (fn := Try.f4) (s := Rows.checkOwnSpec) (tb := 4) (by kernel_rfl) rfl (by kernel_rfl) (by kernel_rfl) hval hW (fun d hd _ hl => ?_) (fun ht => own_true ht hsz)
  match d, hl with
  | [d], _ => exact ⟨rfl, rfl, rfl⟩

set_option maxRecDepth 100000 in
theorem lifted (os : Os) (started : os.Started) (H : Type) (enc : TypeId × Value → H) (F : Stop.Interp) :
    ReturnsInHanded {} Try.checked os 4 .any ((Rows.OpenSpec.upto Rows.checkOwnSpec).pre6 enc Try.prog Try.f4 Rows.checkOwnUptoRow.domain false) (((Rows.OpenSpec.upto Rows.checkOwnSpec).at F).post enc Try.prog Try.f4 false true false false) := by
  refine returnsInHanded_of_cond (C := Try.checked) (s := Rows.OpenSpec.upto Rows.checkOwnSpec) (k := Rows.uptoSmall) rfl own started (by kernel_rfl) Try.func4
    (OpenSpec.witness (enc := enc) (C := Try.checked) (s := Rows.OpenSpec.upto Rows.checkOwnSpec) (k := Rows.uptoSmall) rfl false ⟨#[], #[.slice none 0 0], []⟩ 8 (by kernel_rfl) (by kernel_rfl) (by kernel_rfl)
      (x := ([.nil], [], [])) (by kernel_rfl) rfl (by kernel_rfl)) ?_
  intro W base args ds gs before hval hW _ hk _
  exact contract H enc W base args ds gs before hval hW hk

theorem over : Rows.checkOwnUptoRow.holds Try.pinned (Rows.OpenSpec.upto Rows.checkOwnSpec) :=
  OpenClaim.holds_of_cond 4 Try.f4 rfl rfl rfl rfl rfl rfl rfl ⟨rfl, rfl, rfl, rfl, rfl⟩ rfl rfl rfl rfl rfl (by kernel_rfl) Try.func4 (by kernel_rfl)
    (of_decide_eq_true (by kernel_rfl)) (by unfold Func.isWrapper; first | (rw [if_pos (by decide +kernel)]; kernel_rfl) | (rw [if_neg (by decide +kernel)]; exact ⟨rfl, rfl⟩))
    (fun os started H enc _ F => lifted os started H enc F)

theorem proved : Rows.CheckOwnUptoSaid :=
  over
end Go.Proofs.Ytlbmedmddoljnaa.rowOwn
