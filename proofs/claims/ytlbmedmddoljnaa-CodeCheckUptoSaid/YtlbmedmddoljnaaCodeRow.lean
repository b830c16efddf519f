/-
  Whether any code may be, and is another one, is as the page says: muslinlaw42.CodeCheck answers true, whatever the input, where what it reads is of bulk at most 1048576.
-/
import Derived.Test.YtlbmedmddoljnaaRows
import Derived.Test.YtlbmedmddoljnaaCodeLaw
import Derived.Test.YtlbmedmddoljnaaBulk
import Derived.WalkKit
import Derived.ProofKit
import Derived.OpenShut
import Derived.JoinedCond
set_option linter.unusedVariables false
set_option linter.unusedSimpArgs false
set_option maxRecDepth 100000
namespace Go.Mu
open Go Go.Proofs
abbrev cc (c : CodeD) : CodeD := decCode (encCode c)
noncomputable abbrev g1 (c d : CodeD) : Bool := tst (encCode c = encCode (cc c) ∧ encCode d = encCode (cc d) ∧ okCode (cc c) ∧ (0 : Int) = 0)
noncomputable abbrev g2 (c : CodeD) : Bool := tst (encCode c = encCode (cc c) ∧ okCode (cc c))
noncomputable abbrev g3 (c d : CodeD) : Bool := tst (encCode c = encCode (cc c) ∧ encCode d = encCode (cc d) ∧ okCode (cc c) ∧ okCode (cc d))
noncomputable abbrev lawT (c d : CodeD) (k : Out → Ans) (w : Int) : Ans := cond (g2 c) (cond (g3 c d) (cond (g3 c d) (cond (g3 c c) (k (.ret (.bool (cond (cond (cond (codeE (cc c) == w) (codeEq (cc c) (cc d) == codeEq (cc c) (cc d)) false) (codeEq (cc c) (cc c)) false) true false)) [])) none) none) none) none
theorem law_fun (c d : CodeD) (k : Out → Ans) : iFun Try.prog (layLb.hd Try.prog) layLb.fhs 0 lawF [.agg (encCode c), .agg (encCode d)] [] k =
    cond ((c.units.length : Int) == 0) (cond (g1 c d) (cond (g1 c d) (lawT c d k 71) none) none)
      (cond (g1 c d) (cond (g1 c d) (cond ((cond (uHits (cc c)) (9 : Int) 0) == 0) (lawT c d k (cond (oHits (cc c)) 9 0)) (lawT c d k (cond (uHits (cc c)) 9 0))) none) none) := by kernel_rfl
theorem law_call {c d : CodeD} (hc : okCode c) (hd : okCode d) (k : Out → Ans) : iFun Try.prog (layLb.hd Try.prog) layLb.fhs 0 lawF [.agg (encCode c), .agg (encCode d)] [] k = k (.ret (.bool true) []) := by
  have e1 : g1 c d = true := by unfold g1 cc; rw [decCode_enc, decCode_enc]; exact tst_true ⟨rfl, rfl, hc, rfl⟩
  have e2 : g2 c = true := by unfold g2 cc; rw [decCode_enc]; exact tst_true ⟨rfl, hc⟩
  have e3 : g3 c d = true := by unfold g3 cc; rw [decCode_enc, decCode_enc]; exact tst_true ⟨rfl, rfl, hc, hd⟩
  have e4 : g3 c c = true := by unfold g3 cc; rw [decCode_enc]; exact tst_true ⟨rfl, rfl, hc, hc⟩
  have e5 : cc c = c := decCode_enc c
  have e6 : cc d = d := decCode_enc d
  rw [law_fun, e1, len0]
  unfold lawT
  rw [e2, e3, e4, e5, e6, codeEq_refl]
  unfold codeE uHits oHits
  cases c.units.length == 0 <;> cases c.units.any (unBad c) <;> cases c.ops.any (opBad c) <;> cases codeEq c d <;> rfl

/- from trees to codes -/
def sOf : T → List UInt8
  | .s x => x
  | _ => []
def iOf : T → Int
  | .i _ n => n
  | _ => 0
def lOf : T → List T
  | .l _ es => es
  | _ => []
def fOf : T → Bool
  | .l f _ => f
  | _ => true
def rAt (t : T) (j : Nat) : T := match t with
  | .r fs => fs.getD j (.r [])
  | _ => .r []
def argOf (t : T) : ArgD := ⟨iOf (rAt t 0), sOf (rAt t 1), fOf (rAt t 2), (lOf (rAt t 2)).map sOf, iOf (rAt t 3), sOf (rAt t 4)⟩
def callOf (t : T) : CallD := ⟨sOf (rAt t 0), fOf (rAt t 1), (lOf (rAt t 1)).map argOf⟩
def opOf (t : T) : OpD := ⟨iOf (rAt t 0), iOf (rAt t 1), sOf (rAt t 2), fOf (rAt t 3), (lOf (rAt t 3)).map callOf, iOf (rAt t 4)⟩
def codeOfT (t : T) : CodeD := ⟨fOf (rAt t 0), (lOf (rAt t 0)).map opOf, fOf (rAt t 1), (lOf (rAt t 1)).map iOf⟩
theorem sub_T {α : Type} {conv : T → α} {E : α → List AVal} {d : α} {f : Bool} {es : List T} (h : ∀ t ∈ es, SubL t.enc (E (conv t))) : Sub (.list f es.length (T.encAt es)) (encL f E d (es.map conv)) := by
  unfold encL
  rw [List.length_map]
  refine Sub.list (fun h => h) (fun i hi => ?_)
  rw [T.encAt_get es i es[i] (List.getElem?_eq_getElem hi)]
  have : (es.map conv).getD i d = conv es[i] := by simp [List.getD_eq_getElem?_getD, List.getElem?_eq_getElem hi]
  rw [this]
  exact h _ (List.getElem_mem hi)
theorem str_T {t : T} (h : HasT Try.prog 9 t) : SubL t.enc (encS (sOf t)) := by
  obtain ⟨s, rfl⟩ := h.str_inv (by kernel_rfl)
  simp only [T.enc, sOf, encS]; exact .refl _
theorem int_T {t : T} (h : HasT Try.prog 3 t) : SubL t.enc (encI (iOf t)) := by
  obtain ⟨n, rfl, _⟩ := h.int_inv (k := .i64) (by kernel_rfl)
  simp only [T.enc, iOf, encI]; exact .refl _
theorem size_le {es : List T} {t : T} {n : Nat} (h : t ∈ es) (hn : T.sizes es ≤ n) : t.size ≤ n := Nat.le_trans (T.size_mem es t h) hn
theorem arg_T {t : T} (h : HasT Try.prog 56 t) (hs : t.size ≤ 1048576) : SubL t.enc (encArg (argOf t)) ∧ okArg (argOf t) := by
  obtain ⟨parts, rfl, hp⟩ := h.struct_inv Try.underlying56
  obtain ⟨x0, xs, rfl, h0, hp⟩ := HasTs.cons_inv hp
  obtain ⟨x1, xs, rfl, h1, hp⟩ := HasTs.cons_inv hp
  obtain ⟨x2, xs, rfl, h2, hp⟩ := HasTs.cons_inv hp
  obtain ⟨x3, xs, rfl, h3, hp⟩ := HasTs.cons_inv hp
  obtain ⟨x4, xs, rfl, h4, hp⟩ := HasTs.cons_inv hp
  obtain rfl := HasTs.nil_inv hp
  obtain ⟨k, rfl, _⟩ := h0.int_inv (k := .i64) (by kernel_rfl)
  obtain ⟨nm, rfl⟩ := h1.str_inv (by kernel_rfl)
  obtain ⟨f, path, rfl, hpath⟩ := h2.slice_inv (e := 9) (by kernel_rfl)
  obtain ⟨n, rfl, _⟩ := h3.int_inv (k := .i64) (by kernel_rfl)
  obtain ⟨tx, rfl⟩ := h4.str_inv (by kernel_rfl)
  have hl := T.length_sizes path
  simp only [T.size, T.sizes] at hs
  refine ⟨?_, ?_, fun s hm => ?_, ?_, ?_⟩
  · simp only [T.enc, T.encAll, List.append_nil, List.singleton_append, List.cons_append, List.nil_append]
    exact .cons (.refl _) (.cons (.refl _) (.cons (sub_T (fun t ht => str_T (hpath t ht))) (.cons (.refl _) (.cons (.refl _) .nil))))
  · simp [argOf, rAt, lOf]; omega
  · simp only [argOf, rAt, lOf, List.getD_cons_succ, List.getD_cons_zero, List.mem_map] at hm
    obtain ⟨t, ht, rfl⟩ := hm
    obtain ⟨x, rfl⟩ := (hpath t ht).str_inv (by kernel_rfl)
    have := T.size_mem path _ ht
    simp only [T.size] at this
    simp only [sOf]; omega
  · simp [argOf, rAt, sOf]; omega
  · simp [argOf, rAt, sOf]; omega
theorem call_T {t : T} (h : HasT Try.prog 59 t) (hs : t.size ≤ 1048576) : SubL t.enc (encCall (callOf t)) ∧ okCall (callOf t) := by
  obtain ⟨parts, rfl, hp⟩ := h.struct_inv Try.underlying59
  obtain ⟨x0, xs, rfl, h0, hp⟩ := HasTs.cons_inv hp
  obtain ⟨x1, xs, rfl, h1, hp⟩ := HasTs.cons_inv hp
  obtain rfl := HasTs.nil_inv hp
  obtain ⟨nm, rfl⟩ := h0.str_inv (by kernel_rfl)
  obtain ⟨f, args, rfl, ha⟩ := h1.slice_inv (e := 56) (by kernel_rfl)
  have hl := T.length_sizes args
  simp only [T.size, T.sizes] at hs
  have ht : ∀ t ∈ args, SubL t.enc (encArg (argOf t)) ∧ okArg (argOf t) := fun t ht => arg_T (ha t ht) (size_le ht (by omega))
  refine ⟨?_, ?_, fun a hm => ?_, ?_⟩
  · simp only [T.enc, T.encAll, List.append_nil, List.singleton_append, List.cons_append, List.nil_append]
    exact .cons (.refl _) (.cons (sub_T (fun t h => (ht t h).1)) .nil)
  · simp [callOf, rAt, lOf]; omega
  · simp only [callOf, rAt, lOf, List.getD_cons_succ, List.getD_cons_zero, List.mem_map] at hm
    obtain ⟨t, h, rfl⟩ := hm
    exact (ht t h).2
  · simp [callOf, rAt, sOf]; omega
theorem op_T {t : T} (h : HasT Try.prog 53 t) (hs : t.size ≤ 1048576) : SubL t.enc (encOp (opOf t)) ∧ okOpD (opOf t) := by
  obtain ⟨parts, rfl, hp⟩ := h.struct_inv Try.underlying53
  obtain ⟨x0, xs, rfl, h0, hp⟩ := HasTs.cons_inv hp
  obtain ⟨x1, xs, rfl, h1, hp⟩ := HasTs.cons_inv hp
  obtain ⟨x2, xs, rfl, h2, hp⟩ := HasTs.cons_inv hp
  obtain ⟨x3, xs, rfl, h3, hp⟩ := HasTs.cons_inv hp
  obtain ⟨x4, xs, rfl, h4, hp⟩ := HasTs.cons_inv hp
  obtain rfl := HasTs.nil_inv hp
  obtain ⟨k, rfl, _⟩ := h0.int_inv (k := .i64) (by kernel_rfl)
  obtain ⟨a, rfl, _⟩ := h1.int_inv (k := .i64) (by kernel_rfl)
  obtain ⟨tx, rfl⟩ := h2.str_inv (by kernel_rfl)
  obtain ⟨f, pipe, rfl, hpipe⟩ := h3.slice_inv (e := 59) (by kernel_rfl)
  obtain ⟨n, rfl, _⟩ := h4.int_inv (k := .i64) (by kernel_rfl)
  have hl := T.length_sizes pipe
  simp only [T.size, T.sizes] at hs
  have ht : ∀ t ∈ pipe, SubL t.enc (encCall (callOf t)) ∧ okCall (callOf t) := fun t ht => call_T (hpipe t ht) (size_le ht (by omega))
  refine ⟨?_, ?_, fun c hm => ?_⟩
  · simp only [T.enc, T.encAll, List.append_nil, List.singleton_append, List.cons_append, List.nil_append]
    exact .cons (.refl _) (.cons (.refl _) (.cons (.refl _) (.cons (sub_T (fun t h => (ht t h).1)) (.cons (.refl _) .nil))))
  · simp [opOf, rAt, lOf]; omega
  · simp only [opOf, rAt, lOf, List.getD_cons_succ, List.getD_cons_zero, List.mem_map] at hm
    obtain ⟨t, h, rfl⟩ := hm
    exact (ht t h).2
theorem code_T {t : T} (h : HasT Try.prog 45 t) (hs : t.size ≤ 1048576) : Sub (argT t) (.agg (encCode (codeOfT t))) ∧ okCode (codeOfT t) := by
  obtain ⟨parts, rfl, hp⟩ := h.struct_inv Try.underlying45
  obtain ⟨x0, xs, rfl, h0, hp⟩ := HasTs.cons_inv hp
  obtain ⟨x1, xs, rfl, h1, hp⟩ := HasTs.cons_inv hp
  obtain rfl := HasTs.nil_inv hp
  obtain ⟨f, ops, rfl, ho⟩ := h0.slice_inv (e := 53) (by kernel_rfl)
  obtain ⟨g, us, rfl, hu⟩ := h1.slice_inv (e := 3) (by kernel_rfl)
  have hl := T.length_sizes ops
  have hl2 := T.length_sizes us
  simp only [T.size, T.sizes] at hs
  have ht : ∀ t ∈ ops, SubL t.enc (encOp (opOf t)) ∧ okOpD (opOf t) := fun t ht => op_T (ho t ht) (size_le ht (by omega))
  refine ⟨Sub.agg ?_, ?_, ?_, fun c hm => ?_⟩
  · simp only [T.enc, T.encAll, List.append_nil, List.singleton_append, List.cons_append, List.nil_append]
    exact .cons (sub_T (fun t h => (ht t h).1)) (.cons (sub_T (fun t h => int_T (hu t h))) .nil)
  · simp [codeOfT, rAt, lOf]; omega
  · simp [codeOfT, rAt, lOf]; omega
  · simp only [codeOfT, rAt, lOf, List.getD_cons_succ, List.getD_cons_zero, List.mem_map] at hm
    obtain ⟨t, h, rfl⟩ := hm
    exact (ht t h).2
theorem law_true {xs : List T} (h : HasTs Try.prog [45, 45] xs) (hs : T.sizes xs ≤ 1048576) : ∃ Hn, CallOK Try.prog lawF (xs.map argT) [] (.ret (.bool true) Hn) := by
  obtain ⟨x, xs, rfl, h1, h2⟩ := HasTs.cons_inv h
  obtain ⟨y, xs, rfl, hy, h3⟩ := HasTs.cons_inv h2
  obtain rfl := HasTs.nil_inv h3
  simp only [T.sizes] at hs
  obtain ⟨s1, o1⟩ := code_T h1 (by omega)
  obtain ⟨s2, o2⟩ := code_T hy (by omega)
  exact ⟨[], (layLb_ok.call (law_call o1 o2)).subArgs (.cons s1 (.cons s2 .nil))⟩
def codeTypes : List TypeId := [45, 42, 53, 3, 9, 51, 59, 57, 56, 31, 43]
end Go.Mu

namespace Go.Proofs.Ytlbmedmddoljnaa.rowCode
open Go.ChangeShapes Go.WideShapes Go.ChangeAt Go.RowKit Go.Mu
theorem own : ownKnob Try.prog.godebug = none := by kernel_rfl
theorem contract (H : Type) (enc : TypeId × Value → H) (W : World) (base : Nat) (args : Array Value) (ds gs : List (DataW H)) (before : List MemPlace)
    (hval : ∀ (j : Nat) t v, Try.f7.params[j]? = some t → args[j]? = some v → Value.okWide Try.prog W .any base t v)
    (hW : DataW.Whole enc Try.prog Try.f7.params.toList Rows.codeCheckSpec.vars false W args.toList ds gs before) (hk : Rows.uptoSmall H (ds ++ gs) = true) :
    Calls Try.prog 7 args W fun e W' => ∃ v, e = .returned v ∧ Rows.codeCheckSpec.post enc Try.prog Try.f7 false true false false W args v W' := by
  have hW' := hW
  obtain ⟨p, q, hA, hV, rfl, hfz, hnd⟩ := hW'
  have hgs : gs = [] := by
    cases gs with
    | nil => rfl
    | cons g gs => exact hV.elim
  subst hgs
  rw [List.append_nil] at hk
  have hsz := small_size hk
  refine row_true (ts := codeTypes) (by kernel_rfl) (f := 7) (fn := Try.f7) (s := Rows.codeCheckSpec) (tb := 4) (by kernel_rfl) rfl (by kernel_rfl) (by kernel_rfl) hval hW (fun d hd _ hl => ?_) (fun ht => law_true ht hsz)
  match d, hl with
  | [d1, d2], _ => exact ⟨rfl, rfl, rfl⟩

set_option maxRecDepth 100000 in
theorem lifted (os : Os) (started : os.Started) (H : Type) (enc : TypeId × Value → H) (F : Stop.Interp) :
    ReturnsInHanded {} Try.checked os 7 .any ((Rows.OpenSpec.upto Rows.codeCheckSpec).pre6 enc Try.prog Try.f7 Rows.codeCheckUptoRow.domain false) (((Rows.OpenSpec.upto Rows.codeCheckSpec).at F).post enc Try.prog Try.f7 false true false false) := by
  refine returnsInHanded_of_cond (C := Try.checked) (s := Rows.OpenSpec.upto Rows.codeCheckSpec) (k := Rows.uptoSmall) rfl own started (by kernel_rfl) Try.func7
    (OpenSpec.witness (enc := enc) (C := Try.checked) (s := Rows.OpenSpec.upto Rows.codeCheckSpec) (k := Rows.uptoSmall) rfl false ⟨#[], #[.agg #[.slice none 0 0, .slice none 0 0], .agg #[.slice none 0 0, .slice none 0 0]], []⟩ 8 (by kernel_rfl) (by kernel_rfl) (by kernel_rfl)
      (x := ([.agg [.nil, .nil], .agg [.nil, .nil]], [], [])) (by kernel_rfl) rfl (by kernel_rfl)) ?_
  intro W base args ds gs before hval hW _ hk _
  exact contract H enc W base args ds gs before hval hW hk

theorem over : Rows.codeCheckUptoRow.holds Try.pinned (Rows.OpenSpec.upto Rows.codeCheckSpec) :=
  OpenClaim.holds_of_cond 7 Try.f7 rfl rfl rfl rfl rfl rfl rfl ⟨rfl, rfl, rfl, rfl, rfl⟩ rfl rfl rfl rfl rfl (by kernel_rfl) Try.func7 (by kernel_rfl)
    (of_decide_eq_true (by kernel_rfl)) (by unfold Func.isWrapper; first | (rw [if_pos (by decide +kernel)]; kernel_rfl) | (rw [if_neg (by decide +kernel)]; exact ⟨rfl, rfl⟩))
    (fun os started H enc _ F => lifted os started H enc F)

theorem proved : Rows.CodeCheckUptoSaid :=
  over
end Go.Proofs.Ytlbmedmddoljnaa.rowCode
