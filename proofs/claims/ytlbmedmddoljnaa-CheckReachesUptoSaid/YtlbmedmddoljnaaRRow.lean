/-
  What comes of calls calls nothing else that is there; it begins with the name, if that is there: muslinlaw22.CheckReaches answers true, whatever the input, where what it reads is of bulk at most 1048576.
-/
import Derived.Test.YtlbmedmddoljnaaRows
import Derived.Test.YtlbmedmddoljnaaRLaw
import Derived.Test.YtlbmedmddoljnaaBulk
import Derived.WalkKit
import Derived.ProofKit
import Derived.OpenShut
import Derived.JoinedCond
set_option linter.unusedVariables false
set_option linter.unusedSimpArgs false
set_option maxRecDepth 100000
namespace Go.Mu
open Go Go.Proofs
section
variable (d : Nat) (full : Bool) (defs : List DefD)
abbrev rT (nm : Nm) : AVal := encSs false (reachD d defs nm)
theorem law_funR (nm : Nm) (k : Out → Ans) : iFun Try.prog ((layLR d full defs).hd Try.prog) (layLR d full defs).fhs 0 rF [encDefs full defs, .str nm] [] k =
    cond (tst (encDefs full defs = encDefs full defs)) (cond (tst (encDefs full defs = encDefs full defs ∧ rT d defs nm = encSs false (decL decS (rT d defs nm)) ∧ (decL decS (rT d defs nm)).Nodup ∧ okR d defs (decL decS (rT d defs nm)) ∧ (0 : Int) = 0 ∧ ([] : List (List AVal)) = [] ∧ (decL decS (rT d defs nm)).length < 1099511627776 ∧ okDefsD d defs))
      (cond (tst (encDefs full defs = encDefs full defs)) (cond (decide (0 < ((reachD d defs nm).length : Int)) || !(decide (((reachD d defs nm).length : Int) > 0) == thD defs nm && !((reachD d defs nm).length : Int) == 0))
        (k (.ret (.bool (cond (decide (((reachD d defs nm).length : Int) > 0) == thD defs nm) (cond (((reachD d defs nm).length : Int) == 0) true ((reachD d defs nm).getD 0 [] == nm)) false)) [])) none) none) none) none := by kernel_rfl
theorem law_callR {nm : Nm} (hok : okDefsD d defs) (k : Out → Ans) : iFun Try.prog ((layLR d full defs).hd Try.prog) (layLR d full defs).fhs 0 rF [encDefs full defs, .str nm] [] k = k (.ret (.bool true) []) := by
  obtain ⟨l1, l2, l3, l4⟩ := dfs_law (th := thD defs) (cl := clD d defs) (u := unD defs) (fun x hx => unD_mem defs hx) (n := defs.length + 1) (by simp) nm
  have hlen : (reachD d defs nm).length < 1099511627776 := by
    have := dfs_len (th := thD defs) (cl := clD d defs) (u := unD defs) (fun x hx => unD_mem defs hx) (defs.length + 1) nm [] (by
      have : miss (unD defs) [] ≤ (unD defs).length := List.length_filter_le _ _
      simp at this; omega)
    have h2 : miss (unD defs) [] ≤ (unD defs).length := List.length_filter_le _ _
    simp only [List.length_map, List.length_nil] at h2 this
    have h3 := hok.1
    show (dfs (thD defs) (clD d defs) (defs.length + 1) nm []).length < _
    omega
  have hR : okR d defs (reachD d defs nm) := fun e he c hc ht => by
    have := (l2 e he).2 c hc ht
    simp only [hasN, List.any_eq_true, beq_iff_eq]
    exact ⟨c, this, rfl⟩
  rw [law_funR, decS_enc, tst_true (p := encDefs full defs = encDefs full defs) rfl, tst_true ⟨rfl, rfl, l1, hR, rfl, rfl, hlen, hok⟩]
  cases ht : thD defs nm with
  | true =>
    have h3 : (reachD d defs nm).head? = some nm := l3 ht
    generalize reachD d defs nm = R at *
    cases R with
    | nil => cases h3
    | cons x R =>
      simp only [List.head?_cons, Option.some.injEq] at h3
      subst h3
      have e1 : decide (0 < ((x :: R).length : Int)) = true := decide_eq_true (by simp only [List.length_cons]; omega)
      have e3 : (((x :: R).length : Int) == 0) = false := beq_eq_false_iff_ne.2 (by simp only [List.length_cons]; omega)
      have e4 : ((x :: R).getD 0 [] == x) = true := by simp
      rw [e4, e3, e1]
      rfl
  | false =>
    have h4 := l4 ht
    have e : reachD d defs nm = [] := h4
    rw [e]
    rfl
end
/- from trees to templates -/
theorem nodes_T (full : Bool) (es : List T) : nodes (.list full es.length (T.encAt es)) = es.map (fun e => decNd e.enc) := by
  simp only [nodes, decL]
  apply List.ext_getElem
  · simp
  · intro i h1 h2
    simp only [List.getElem_map, List.getElem_range]
    have hi : i < es.length := by simpa using h2
    rw [T.encAt_get es i es[i] (List.getElem?_eq_getElem hi)]
theorem node_T {t : T} (h : HasT Try.prog 61 t) : ∃ nd, t.enc = encNd nd ∧ ∃ bf b ef el, nd.body = .list bf b.length (T.encAt b) ∧ nd.els = .list ef el.length (T.encAt el) ∧ (∀ y ∈ b, HasT Try.prog 61 y) ∧ (∀ y ∈ el, HasT Try.prog 61 y) ∧ T.sizes b + T.sizes el + 1 ≤ t.size := by
  obtain ⟨parts, rfl, hp⟩ := h.struct_inv Try.underlying61
  obtain ⟨x0, xs, rfl, h0, hp⟩ := HasTs.cons_inv hp
  obtain ⟨x1, xs, rfl, h1, hp⟩ := HasTs.cons_inv hp
  obtain ⟨x2, xs, rfl, h2, hp⟩ := HasTs.cons_inv hp
  obtain ⟨x3, xs, rfl, h3, hp⟩ := HasTs.cons_inv hp
  obtain ⟨x4, xs, rfl, h4, hp⟩ := HasTs.cons_inv hp
  obtain ⟨x5, xs, rfl, h5, hp⟩ := HasTs.cons_inv hp
  obtain ⟨x6, xs, rfl, h6, hp⟩ := HasTs.cons_inv hp
  obtain ⟨x7, xs, rfl, h7, hp⟩ := HasTs.cons_inv hp
  obtain ⟨x8, xs, rfl, h8, hp⟩ := HasTs.cons_inv hp
  obtain rfl := HasTs.nil_inv hp
  obtain ⟨k, rfl, _⟩ := h0.int_inv (k := .i64) (by kernel_rfl)
  obtain ⟨tx, rfl⟩ := h1.str_inv (by kernel_rfl)
  obtain ⟨nm, rfl⟩ := h2.str_inv (by kernel_rfl)
  obtain ⟨pf, p, rfl, _⟩ := h3.slice_inv (e := 59) (by kernel_rfl)
  obtain ⟨bf, b, rfl, hb⟩ := h4.slice_inv (e := 61) (by kernel_rfl)
  obtain ⟨ef, el, rfl, he⟩ := h5.slice_inv (e := 61) (by kernel_rfl)
  obtain ⟨a, rfl, _⟩ := h6.int_inv (k := .i64) (by kernel_rfl)
  obtain ⟨es, rfl, _⟩ := h7.int_inv (k := .i64) (by kernel_rfl)
  obtain ⟨u, rfl, _⟩ := h8.int_inv (k := .i64) (by kernel_rfl)
  refine ⟨⟨k, tx, nm, pf, p.length, T.encAt p, bf, b.length, T.encAt b, ef, el.length, T.encAt el, a, es, u⟩, ?_, bf, b, ef, el, rfl, rfl, hb, he, ?_⟩
  · simp only [T.enc, T.encAll, List.append_nil, List.singleton_append, List.cons_append, List.nil_append, encNd]
  · simp only [T.size, T.sizes]; omega
theorem sum_T {f : T → Nat} : ∀ es : List T, (∀ e ∈ es, f e ≤ e.size) → (es.map f).sum ≤ T.sizes es
  | [], _ => by simp [T.sizes]
  | e :: es, h => by
    have h1 := h e (by simp)
    have h2 := sum_T es (fun x hx => h x (by simp [hx]))
    simp only [List.map_cons, List.sum_cons, T.sizes]
    omega
theorem wfV_T : ∀ (d : Nat) (full : Bool) (es : List T), (∀ y ∈ es, HasT Try.prog 61 y) → T.sizes es < d → T.sizes es ≤ 1048576 → wfV d (.list full es.length (T.encAt es)) ∧ cntV d (.list full es.length (T.encAt es)) ≤ T.sizes es
  | 0, _, _, _, h, _ => absurd h (Nat.not_lt_zero _)
  | d + 1, full, es, ht, hs, hb => by
    have key : ∀ e ∈ es, wfNd e.enc = true ∧ (wfV d (decNd e.enc).body ∧ wfV d (decNd e.enc).els) ∧ 1 + cntV d (decNd e.enc).body + cntV d (decNd e.enc).els ≤ e.size := fun e he => by
      obtain ⟨nd, e1, bf, b, ef, el, e2, e3, h1, h2, h3⟩ := node_T (ht e he)
      have hsz := T.size_mem es e he
      have g1 := wfV_T d bf b h1 (by omega) (by omega)
      have g2 := wfV_T d ef el h2 (by omega) (by omega)
      rw [e1, decNd_enc, e2, e3]
      exact ⟨wfNd_enc nd, ⟨g1.1, g2.1⟩, by have := g1.2; have := g2.2; omega⟩
    have hl := T.length_sizes es
    refine ⟨⟨?_, ?_, fun n hn => ?_⟩, ?_⟩
    · simp only [wfL, List.all_eq_true, List.mem_range]
      intro i hi
      rw [T.encAt_get es i es[i] (List.getElem?_eq_getElem hi)]
      exact (key _ (List.getElem_mem hi)).1
    · show es.length ≤ _
      omega
    · rw [nodes_T, List.mem_map] at hn
      obtain ⟨e, he, rfl⟩ := hn
      exact (key e he).2.1
    · unfold cntV
      rw [nodes_T, List.map_map]
      exact sum_T es (fun e he => (key e he).2.2)
theorem def_T {t : T} (h : HasT Try.prog 35 t) : ∃ dd : DefD, t.enc = encDef dd ∧ ∃ bf b, dd.body = .list bf b.length (T.encAt b) ∧ (∀ y ∈ b, HasT Try.prog 61 y) ∧ T.sizes b + 1 ≤ t.size := by
  obtain ⟨parts, rfl, hp⟩ := h.struct_inv Try.underlying35
  obtain ⟨x0, xs, rfl, h0, hp⟩ := HasTs.cons_inv hp
  obtain ⟨x1, xs, rfl, h1, hp⟩ := HasTs.cons_inv hp
  obtain rfl := HasTs.nil_inv hp
  obtain ⟨nm, rfl⟩ := h0.str_inv (by kernel_rfl)
  obtain ⟨bf, b, rfl, hb⟩ := h1.slice_inv (e := 61) (by kernel_rfl)
  refine ⟨⟨nm, bf, b.length, T.encAt b⟩, ?_, bf, b, rfl, hb, ?_⟩
  · simp only [T.enc, T.encAll, List.append_nil, List.singleton_append, List.cons_append, List.nil_append, encDef]
  · simp only [T.size, T.sizes]; omega
theorem law_trueR {xs : List T} (h : HasTs Try.prog [23, 9] xs) (hs : T.sizes xs ≤ 1048576) : ∃ Hn, CallOK Try.prog rF (xs.map argT) [] (.ret (.bool true) Hn) := by
  obtain ⟨x, xs, rfl, h1, h2⟩ := HasTs.cons_inv h
  obtain ⟨y, xs, rfl, hy, h3⟩ := HasTs.cons_inv h2
  obtain rfl := HasTs.nil_inv h3
  obtain ⟨full, es, rfl, he⟩ := h1.slice_inv (e := 35) (by kernel_rfl)
  obtain ⟨nm, rfl⟩ := hy.str_inv (by kernel_rfl)
  simp only [T.sizes, T.size] at hs
  have hl := T.length_sizes es
  have hok : okDefsD 1048577 (es.map (fun e => decDef e.enc)) := by
    refine ⟨by simp; omega, fun x hx => ?_⟩
    obtain ⟨e, hm, rfl⟩ := List.mem_map.1 hx
    obtain ⟨dd, e1, bf, b, e2, e3, e4⟩ := def_T (he e hm)
    have hsz := T.size_mem es e hm
    rw [e1, decDef_enc, e2]
    have := wfV_T 1048577 bf b e3 (by omega) (by omega)
    exact ⟨this.1, by have := this.2; omega⟩
  have ea : argT (.l full es) = .list full es.length (T.encAt es) := by simp [argT, T.enc]
  have eb : argT (.s nm) = .str nm := by simp [argT, T.enc]
  have hsub : Sub (argT (.l full es)) (encDefs full (es.map (fun e => decDef e.enc))) := by
    rw [ea]
    unfold encDefs encL
    rw [List.length_map]
    refine Sub.list (fun h => h) (fun i hi => ?_)
    rw [T.encAt_get es i es[i] (List.getElem?_eq_getElem hi)]
    have e0 : (es.map (fun e => decDef e.enc)).getD i def0 = decDef es[i].enc := by simp [List.getD_eq_getElem?_getD, List.getElem?_eq_getElem hi]
    obtain ⟨dd, e1, _⟩ := def_T (he _ (List.getElem_mem hi))
    rw [e0, e1, decDef_enc]
    exact .refl _
  refine ⟨[], ?_⟩
  rw [List.map_cons, List.map_cons, List.map_nil, eb]
  exact ((layLR_ok 1048577 full (es.map (fun e => decDef e.enc)) hok).call (law_callR 1048577 full _ hok)).subArgs (.cons hsub (.cons (.refl _) .nil))
def reachTypes : List TypeId := [23, 35, 9, 33, 61, 3, 51, 59, 57, 56, 31]
end Go.Mu

namespace Go.Proofs.Ytlbmedmddoljnaa.rowReaches
open Go.ChangeShapes Go.WideShapes Go.ChangeAt Go.RowKit Go.Mu
theorem own : ownKnob Try.prog.godebug = none := by kernel_rfl
theorem contract (H : Type) (enc : TypeId × Value → H) (W : World) (base : Nat) (args : Array Value) (ds gs : List (DataW H)) (before : List MemPlace)
    (hval : ∀ (j : Nat) t v, Try.f5.params[j]? = some t → args[j]? = some v → Value.okWide Try.prog W .any base t v)
    (hW : DataW.Whole enc Try.prog Try.f5.params.toList Rows.checkReachesSpec.vars false W args.toList ds gs before) (hk : Rows.uptoSmall H (ds ++ gs) = true) :
    Calls Try.prog 5 args W fun e W' => ∃ v, e = .returned v ∧ Rows.checkReachesSpec.post enc Try.prog Try.f5 false true false false W args v W' := by
  have hW' := hW
  obtain ⟨p, q, hA, hV, rfl, hfz, hnd⟩ := hW'
  have hgs : gs = [] := by
    cases gs with
    | nil => rfl
    | cons g gs => exact hV.elim
  subst hgs
  rw [List.append_nil] at hk
  have hsz := small_size hk
  refine row_true (ts := reachTypes) (by kernel_rfl) (f := 5) (fn := Try.f5) (s := Rows.checkReachesSpec) (tb := 4) (by kernel_rfl) rfl (by kernel_rfl) (by kernel_rfl) hval hW (fun d hd _ hl => ?_) (fun ht => law_trueR ht hsz)
  match d, hl with
  | [d1, d2], _ => exact ⟨rfl, rfl, rfl⟩

set_option maxRecDepth 100000 in
theorem lifted (os : Os) (started : os.Started) (H : Type) (enc : TypeId × Value → H) (F : Stop.Interp) :
    ReturnsInHanded {} Try.checked os 5 .any ((Rows.OpenSpec.upto Rows.checkReachesSpec).pre6 enc Try.prog Try.f5 Rows.checkReachesUptoRow.domain false) (((Rows.OpenSpec.upto Rows.checkReachesSpec).at F).post enc Try.prog Try.f5 false true false false) := by
  refine returnsInHanded_of_cond (C := Try.checked) (s := Rows.OpenSpec.upto Rows.checkReachesSpec) (k := Rows.uptoSmall) rfl own started (by kernel_rfl) Try.func5
    (OpenSpec.witness (enc := enc) (C := Try.checked) (s := Rows.OpenSpec.upto Rows.checkReachesSpec) (k := Rows.uptoSmall) rfl false ⟨#[], #[.slice none 0 0, .string ⟨#[]⟩], []⟩ 8 (by kernel_rfl) (by kernel_rfl) (by kernel_rfl)
      (x := ([.nil, .lit (.string [])], [], [])) (by kernel_rfl) rfl (by kernel_rfl)) ?_
  intro W base args ds gs before hval hW _ hk _
  exact contract H enc W base args ds gs before hval hW hk

theorem over : Rows.checkReachesUptoRow.holds Try.pinned (Rows.OpenSpec.upto Rows.checkReachesSpec) :=
  OpenClaim.holds_of_cond 5 Try.f5 rfl rfl rfl rfl rfl rfl rfl ⟨rfl, rfl, rfl, rfl, rfl⟩ rfl rfl rfl rfl rfl (by kernel_rfl) Try.func5 (by kernel_rfl)
    (of_decide_eq_true (by kernel_rfl)) (by unfold Func.isWrapper; first | (rw [if_pos (by decide +kernel)]; kernel_rfl) | (rw [if_neg (by decide +kernel)]; exact ⟨rfl, rfl⟩))
    (fun os started H enc _ F => lifted os started H enc F)

theorem proved : Rows.CheckReachesUptoSaid :=
  over
end Go.Proofs.Ytlbmedmddoljnaa.rowReaches
