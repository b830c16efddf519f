/-
  The code made of units that may be may be: muslinlaw42.CodeMay answers true, whatever the input, where what it reads is of bulk at most 1048576.
-/
import Derived.Test.YtlbmedmddoljnaaRows
import Derived.Test.YtlbmedmddoljnaaWLaw
import Derived.Test.YtlbmedmddoljnaaPTree
import Derived.Test.YtlbmedmddoljnaaBulk
import Derived.WalkKit
import Derived.ProofKit
import Derived.OpenShut
import Derived.JoinedCond
set_option linter.unusedVariables false
set_option linter.unusedSimpArgs false
set_option maxRecDepth 100000
namespace Go.Mu
open Go Go.Proofs
theorem nodes_T (full : Bool) (es : List T) : nodesE (.list full es.length (T.encAt es)) = es.map (fun e => decNe e.enc) := by
  simp only [nodesE, decL]
  apply List.ext_getElem
  · simp
  · intro i h1 h2
    simp only [List.getElem_map, List.getElem_range]
    have hi : i < es.length := by simpa using h2
    rw [T.encAt_get es i es[i] (List.getElem?_eq_getElem hi)]
theorem okCs_T {es : List T} (h : ∀ t ∈ es, HasT Try.prog 59 t) (hs : T.sizes es ≤ 1048576) : okCs (es.map callOf) := by
  refine ⟨(pipe_T (full := true) h hs).2, fun c hc => ?_, ?_⟩
  · obtain ⟨t, ht, rfl⟩ := List.mem_map.1 hc
    have hz := T.size_mem es t ht
    obtain ⟨parts, rfl, hp⟩ := (h t ht).struct_inv Try.underlying59
    obtain ⟨x0, xs, rfl, h0, hp⟩ := HasTs.cons_inv hp
    obtain ⟨x1, xs, rfl, h1, hp⟩ := HasTs.cons_inv hp
    obtain rfl := HasTs.nil_inv hp
    obtain ⟨f, args, rfl, ha⟩ := h1.slice_inv (e := 56) (by kernel_rfl)
    have hl := T.length_sizes args
    simp only [T.size, T.sizes] at hz
    simp [callOf, rAt, lOf]; omega
  · have hl := T.length_sizes es
    rw [List.length_map]; omega
theorem subL_decNe {x : List AVal} {n : NdE} {p : AVal} (hx : x = [.int .i64 n.kind, .str n.text, .str n.name, p, .list n.bf n.bn n.br, .list n.ef n.en n.er, .int .i64 n.at_, .int .i64 n.esc, .int .i64 n.unit]) (hs : Sub p (encPipe n.pf n.pipe)) : SubL x (encNe n) := by
  subst hx
  exact .cons (.refl _) (.cons (.refl _) (.cons (.refl _) (.cons hs (.cons (.refl _) (.cons (.refl _) (.cons (.refl _) (.cons (.refl _) (.cons (.refl _) .nil))))))))
/-- a pipeline read off a tree's cells -/
theorem decL_T {pf : Bool} {p : List T} (hp : ∀ t ∈ p, HasT Try.prog 59 t) : decL decCall (.list pf p.length (T.encAt p)) = p.map (fun t => decCall t.enc) := by
  simp only [decL]
  apply List.ext_getElem
  · simp
  · intro i h1 h2
    simp only [List.getElem_map, List.getElem_range]
    have hi : i < p.length := by simpa using h2
    rw [T.encAt_get p i p[i] (List.getElem?_eq_getElem hi)]
theorem decArg_T {t : T} (h : HasT Try.prog 56 t) : decArg t.enc = argOf t := by
  obtain ⟨parts, rfl, hp⟩ := h.struct_inv Try.underlying56
  obtain ⟨x0, xs, rfl, h0, hp⟩ := HasTs.cons_inv hp
  obtain ⟨x1, xs, rfl, h1, hp⟩ := HasTs.cons_inv hp
  obtain ⟨x2, xs, rfl, h2, hp⟩ := HasTs.cons_inv hp
  obtain ⟨x3, xs, rfl, h3, hp⟩ := HasTs.cons_inv hp
  obtain ⟨x4, xs, rfl, h4, hp⟩ := HasTs.cons_inv hp
  obtain rfl := HasTs.nil_inv hp
  obtain ⟨k, rfl, _⟩ := h0.int_inv (k := .i64) (by kernel_rfl)
  obtain ⟨nm, rfl⟩ := h1.str_inv (by kernel_rfl)
  obtain ⟨f, path, rfl, hpath⟩ := h2.slice_inv (e := 9) (by kernel_rfl)
  obtain ⟨n, rfl, _⟩ := h3.int_inv (k := .i64) (by kernel_rfl)
  obtain ⟨tx, rfl⟩ := h4.str_inv (by kernel_rfl)
  simp only [T.enc, T.encAll, List.append_nil, List.singleton_append, List.cons_append, List.nil_append, decArg, argOf, rAt, iOf, sOf, fOf, lOf, List.getD_cons_zero, List.getD_cons_succ, intOf, strOf, fullOf]
  congr 1
  simp only [decL]
  apply List.ext_getElem
  · simp
  · intro i g1 g2
    simp only [List.getElem_map, List.getElem_range]
    have hi : i < path.length := by simpa using g2
    rw [T.encAt_get path i path[i] (List.getElem?_eq_getElem hi)]
    obtain ⟨s, e⟩ := (hpath _ (List.getElem_mem hi)).str_inv (by kernel_rfl)
    rw [e]
    simp [T.enc, decS, sOf, strOf]
theorem decCall_T {t : T} (h : HasT Try.prog 59 t) : decCall t.enc = callOf t := by
  obtain ⟨parts, rfl, hp⟩ := h.struct_inv Try.underlying59
  obtain ⟨x0, xs, rfl, h0, hp⟩ := HasTs.cons_inv hp
  obtain ⟨x1, xs, rfl, h1, hp⟩ := HasTs.cons_inv hp
  obtain rfl := HasTs.nil_inv hp
  obtain ⟨nm, rfl⟩ := h0.str_inv (by kernel_rfl)
  obtain ⟨f, args, rfl, ha⟩ := h1.slice_inv (e := 56) (by kernel_rfl)
  simp only [T.enc, T.encAll, List.append_nil, List.singleton_append, List.cons_append, List.nil_append, decCall, callOf, rAt, sOf, fOf, lOf, List.getD_cons_zero, List.getD_cons_succ, strOf, fullOf]
  congr 1
  simp only [decL]
  apply List.ext_getElem
  · simp
  · intro i g1 g2
    simp only [List.getElem_map, List.getElem_range]
    have hi : i < args.length := by simpa using g2
    rw [T.encAt_get args i args[i] (List.getElem?_eq_getElem hi)]
    exact decArg_T (ha _ (List.getElem_mem hi))
theorem node_T {t : T} (h : HasT Try.prog 61 t) (hz : t.size ≤ 1048576) : SubL t.enc (encNe (decNe t.enc)) ∧ okCs (decNe t.enc).pipe ∧ ∃ bf b ef el, (decNe t.enc).body = .list bf b.length (T.encAt b) ∧ (decNe t.enc).els = .list ef el.length (T.encAt el) ∧ (∀ y ∈ b, HasT Try.prog 61 y) ∧ (∀ y ∈ el, HasT Try.prog 61 y) ∧ T.sizes b + T.sizes el + 1 ≤ t.size := by
  obtain ⟨parts, rfl, hp⟩ := h.struct_inv Try.underlying61
  obtain ⟨x0, xs, rfl, h0, hp⟩ := HasTs.cons_inv hp
  obtain ⟨x1, xs, rfl, h1, hp⟩ := HasTs.cons_inv hp
  obtain ⟨x2, xs, rfl, h2, hp⟩ := HasTs.cons_inv hp
  obtain ⟨x3, xs, rfl, h3, hp⟩ := HasTs.cons_inv hp
  obtain ⟨x4, xs, rfl, h4, hp⟩ := HasTs.cons_inv hp
  obtain ⟨x5, xs, rfl, h5, hp⟩ := HasTs.cons_inv hp
  obtain ⟨x6, xs, rfl, h6, hp⟩ := HasTs.cons_inv hp
  obtain ⟨x7, xs, rfl, h7, hp⟩ := HasTs.cons_inv hp
  obtain ⟨x8, xs, rfl, h8, hp⟩ := HasTs.cons_inv hp
  obtain rfl := HasTs.nil_inv hp
  obtain ⟨k, rfl, _⟩ := h0.int_inv (k := .i64) (by kernel_rfl)
  obtain ⟨tx, rfl⟩ := h1.str_inv (by kernel_rfl)
  obtain ⟨nm, rfl⟩ := h2.str_inv (by kernel_rfl)
  obtain ⟨pf, p, rfl, hpp⟩ := h3.slice_inv (e := 59) (by kernel_rfl)
  obtain ⟨bf, b, rfl, hb⟩ := h4.slice_inv (e := 61) (by kernel_rfl)
  obtain ⟨ef, el, rfl, he⟩ := h5.slice_inv (e := 61) (by kernel_rfl)
  obtain ⟨a, rfl, _⟩ := h6.int_inv (k := .i64) (by kernel_rfl)
  obtain ⟨es, rfl, _⟩ := h7.int_inv (k := .i64) (by kernel_rfl)
  obtain ⟨u, rfl, _⟩ := h8.int_inv (k := .i64) (by kernel_rfl)
  simp only [T.size, T.sizes] at hz
  have ec : (p.map (fun t => decCall t.enc)) = p.map callOf := List.map_congr_left (fun t ht => decCall_T (hpp t ht))
  have hs := (pipe_T (full := pf) hpp (by omega)).1
  simp only [T.enc, T.encAll, List.append_nil, List.singleton_append, List.cons_append, List.nil_append]
  have ed : decNe [.int .i64 k, .str tx, .str nm, .list pf p.length (T.encAt p), .list bf b.length (T.encAt b), .list ef el.length (T.encAt el), .int .i64 a, .int .i64 es, .int .i64 u] = ⟨k, tx, nm, pf, p.map callOf, bf, b.length, T.encAt b, ef, el.length, T.encAt el, a, es, u⟩ := by
    simp only [decNe, List.getD_cons_zero, List.getD_cons_succ, intOf, strOf, fullOf, plF, plN, plR]
    rw [decL_T hpp, ec]
  rw [ed]
  refine ⟨subL_decNe (p := .list pf p.length (T.encAt p)) rfl hs, okCs_T hpp (by omega), bf, b, ef, el, rfl, rfl, hb, he, ?_⟩
  simp only [T.size, T.sizes]; omega
theorem sum_T {f : T → Nat} {c : Nat} : ∀ es : List T, (∀ e ∈ es, f e ≤ c * e.size) → (es.map f).sum ≤ c * T.sizes es
  | [], _ => by simp [T.sizes]
  | e :: es, h => by
    have h1 := h e (by simp)
    have h2 := sum_T es (fun x hx => h x (by simp [hx]))
    simp only [List.map_cons, List.sum_cons, T.sizes, Nat.mul_add]
    omega
theorem wfW_T : ∀ (d : Nat) (full : Bool) (es : List T), (∀ y ∈ es, HasT Try.prog 61 y) → T.sizes es < d → T.sizes es ≤ 1048576 → wfW d (.list full es.length (T.encAt es)) ∧ cntW d (.list full es.length (T.encAt es)) ≤ 5 * T.sizes es
  | 0, _, _, _, h, _ => absurd h (Nat.not_lt_zero _)
  | d + 1, full, es, ht, hs, hb => by
    have key : ∀ e ∈ es, wfNe e.enc = true ∧ (okCs (decNe e.enc).pipe ∧ wfW d (decNe e.enc).body ∧ wfW d (decNe e.enc).els) ∧ 5 + cntW d (decNe e.enc).body + cntW d (decNe e.enc).els ≤ 5 * e.size := fun e he => by
      have hsz := T.size_mem es e he
      obtain ⟨e1, e0, bf, b, ef, el, e2, e3, h1, h2, h3⟩ := node_T (ht e he) (by omega)
      have g1 := wfW_T d bf b h1 (by omega) (by omega)
      have g2 := wfW_T d ef el h2 (by omega) (by omega)
      rw [e2, e3]
      exact ⟨tst_true ⟨e1, e0⟩, ⟨e0, g1.1, g2.1⟩, by have := g1.2; have := g2.2; omega⟩
    have hl := T.length_sizes es
    refine ⟨⟨?_, ?_, fun n hn => ?_⟩, ?_⟩
    · simp only [wfL, List.all_eq_true, List.mem_range]
      intro i hi
      rw [T.encAt_get es i es[i] (List.getElem?_eq_getElem hi)]
      exact (key _ (List.getElem_mem hi)).1
    · show es.length ≤ _
      omega
    · rw [nodes_T, List.mem_map] at hn
      obtain ⟨e, he, rfl⟩ := hn
      exact (key e he).2.1
    · unfold cntW
      rw [nodes_T, List.map_map]
      exact sum_T es (fun e he => (key e he).2.2)
theorem state_T {t : T} (h : HasT Try.prog 88 t) : ∃ a b c d e f g i, t.enc = [a, b, c, d, e, f, g, i] := by
  obtain ⟨parts, rfl, hp⟩ := h.struct_inv Try.underlying88
  obtain ⟨x0, xs, rfl, h0, hp⟩ := HasTs.cons_inv hp
  obtain ⟨x1, xs, rfl, h1, hp⟩ := HasTs.cons_inv hp
  obtain ⟨x2, xs, rfl, h2, hp⟩ := HasTs.cons_inv hp
  obtain ⟨x3, xs, rfl, h3, hp⟩ := HasTs.cons_inv hp
  obtain ⟨x4, xs, rfl, h4, hp⟩ := HasTs.cons_inv hp
  obtain ⟨x5, xs, rfl, h5, hp⟩ := HasTs.cons_inv hp
  obtain ⟨x6, xs, rfl, h6, hp⟩ := HasTs.cons_inv hp
  obtain ⟨x7, xs, rfl, h7, hp⟩ := HasTs.cons_inv hp
  obtain rfl := HasTs.nil_inv hp
  obtain ⟨k, rfl, _⟩ := h0.int_inv (k := .i64) (by kernel_rfl)
  obtain ⟨s1, rfl⟩ := h1.str_inv (by kernel_rfl)
  obtain ⟨s2, rfl⟩ := h2.str_inv (by kernel_rfl)
  obtain ⟨k3, rfl, _⟩ := h3.int_inv (k := .u8) (by kernel_rfl)
  obtain ⟨s4, rfl⟩ := h4.str_inv (by kernel_rfl)
  obtain ⟨s5, rfl⟩ := h5.str_inv (by kernel_rfl)
  obtain ⟨k6, rfl, _⟩ := h6.int_inv (k := .i64) (by kernel_rfl)
  obtain ⟨s7, rfl⟩ := h7.str_inv (by kernel_rfl)
  simp only [T.enc, T.encAll, List.append_nil, List.singleton_append, List.cons_append, List.nil_append]
  exact ⟨_, _, _, _, _, _, _, _, rfl⟩
theorem unit_T {t : T} (h : HasT Try.prog 90 t) : t.enc = encUn (decUn t.enc) ∧ ∃ bf b, (decUn t.enc).body = .list bf b.length (T.encAt b) ∧ (∀ y ∈ b, HasT Try.prog 61 y) ∧ T.sizes b + 1 ≤ t.size := by
  obtain ⟨parts, rfl, hp⟩ := h.struct_inv Try.underlying90
  obtain ⟨x0, xs, rfl, h0, hp⟩ := HasTs.cons_inv hp
  obtain ⟨x1, xs, rfl, h1, hp⟩ := HasTs.cons_inv hp
  obtain ⟨x2, xs, rfl, h2, hp⟩ := HasTs.cons_inv hp
  obtain ⟨x3, xs, rfl, h3, hp⟩ := HasTs.cons_inv hp
  obtain rfl := HasTs.nil_inv hp
  obtain ⟨nm, rfl⟩ := h0.str_inv (by kernel_rfl)
  obtain ⟨a1, a2, a3, a4, a5, a6, a7, a8, ea⟩ := state_T h1
  obtain ⟨b1, b2, b3, b4, b5, b6, b7, b8, eb⟩ := state_T h2
  obtain ⟨bf, b, rfl, hb⟩ := h3.slice_inv (e := 61) (by kernel_rfl)
  simp only [T.enc, T.encAll, ea, eb, List.append_nil, List.singleton_append, List.cons_append, List.nil_append]
  refine ⟨rfl, bf, b, rfl, hb, ?_⟩
  simp only [T.size, T.sizes]; omega
theorem law_trueM {xs : List T} (h : HasTs Try.prog [41] xs) (hs : T.sizes xs ≤ 1048576) : ∃ Hn, CallOK Try.prog 6 (xs.map argT) [] (.ret (.bool true) Hn) := by
  obtain ⟨x, xs, rfl, h1, h2⟩ := HasTs.cons_inv h
  obtain rfl := HasTs.nil_inv h2
  obtain ⟨full, es, rfl, he⟩ := h1.slice_inv (e := 90) (by kernel_rfl)
  simp only [T.sizes, T.size] at hs
  have hl := T.length_sizes es
  have key : ∀ e ∈ es, wfW 1048577 (decUn e.enc).body ∧ 1 + cntW 1048577 (decUn e.enc).body ≤ 5 * e.size := fun e hm => by
    have hsz := T.size_mem es e hm
    obtain ⟨_, bf, b, e2, e3, e4⟩ := unit_T (he e hm)
    rw [e2]
    have := wfW_T 1048577 bf b e3 (by omega) (by omega)
    exact ⟨this.1, by have := this.2; omega⟩
  have hok : okUb 1048577 (es.map (fun e => decUn e.enc)) := by
    refine ⟨⟨by simp; omega, fun x hx => ?_⟩, ?_⟩
    · obtain ⟨e, hm, rfl⟩ := List.mem_map.1 hx
      exact (key e hm).1
    · rw [List.map_map]
      have := sum_T (c := 5) (f := fun e => 1 + cntW 1048577 (decUn e.enc).body) es (fun e hm => (key e hm).2)
      show (es.map (fun e => 1 + cntW 1048577 (decUn e.enc).body)).sum ≤ _
      omega
  have ea : argT (.l full es) = .list full es.length (T.encAt es) := by simp [argT, T.enc]
  have hsub : Sub (argT (.l full es)) (encUns full (es.map (fun e => decUn e.enc))) := by
    rw [ea]
    exact sub_T (fun t ht => by rw [← (unit_T (he t ht)).1]; exact .refl _)
  refine ⟨[], ?_⟩
  rw [List.map_cons, List.map_nil]
  exact ((layCm_ok 1048577).call (law_callM hok)).subArgs (.cons hsub .nil)
def mayTypes : List TypeId := [41, 90, 9, 88, 3, 5, 33, 61, 51, 59, 57, 56, 31]
end Go.Mu

namespace Go.Proofs.Ytlbmedmddoljnaa.rowMay
open Go.ChangeShapes Go.WideShapes Go.ChangeAt Go.RowKit Go.Mu
theorem own : ownKnob Try.prog.godebug = none := by kernel_rfl
theorem contract (H : Type) (enc : TypeId × Value → H) (W : World) (base : Nat) (args : Array Value) (ds gs : List (DataW H)) (before : List MemPlace)
    (hval : ∀ (j : Nat) t v, Try.f6.params[j]? = some t → args[j]? = some v → Value.okWide Try.prog W .any base t v)
    (hW : DataW.Whole enc Try.prog Try.f6.params.toList Rows.codeMaySpec.vars false W args.toList ds gs before) (hk : Rows.uptoSmall H (ds ++ gs) = true) :
    Calls Try.prog 6 args W fun e W' => ∃ v, e = .returned v ∧ Rows.codeMaySpec.post enc Try.prog Try.f6 false true false false W args v W' := by
  have hW' := hW
  obtain ⟨p, q, hA, hV, rfl, hfz, hnd⟩ := hW'
  have hgs : gs = [] := by
    cases gs with
    | nil => rfl
    | cons g gs => exact hV.elim
  subst hgs
  rw [List.append_nil] at hk
  have hsz := small_size hk
  refine row_true (ts := mayTypes) (by kernel_rfl) (f := 6) (fn := Try.f6) (s := Rows.codeMaySpec) (tb := 4) (by kernel_rfl) rfl (by kernel_rfl) (by kernel_rfl) hval hW (fun d hd _ hl => ?_) (fun ht => law_trueM ht hsz)
  match d, hl with
  | [d1], _ => exact ⟨rfl, rfl, rfl⟩

set_option maxRecDepth 100000 in
theorem lifted (os : Os) (started : os.Started) (H : Type) (enc : TypeId × Value → H) (F : Stop.Interp) :
    ReturnsInHanded {} Try.checked os 6 .any ((Rows.OpenSpec.upto Rows.codeMaySpec).pre6 enc Try.prog Try.f6 Rows.codeMayUptoRow.domain false) (((Rows.OpenSpec.upto Rows.codeMaySpec).at F).post enc Try.prog Try.f6 false true false false) := by
  refine returnsInHanded_of_cond (C := Try.checked) (s := Rows.OpenSpec.upto Rows.codeMaySpec) (k := Rows.uptoSmall) rfl own started (by kernel_rfl) Try.func6
    (OpenSpec.witness (enc := enc) (C := Try.checked) (s := Rows.OpenSpec.upto Rows.codeMaySpec) (k := Rows.uptoSmall) rfl false ⟨#[], #[.slice none 0 0], []⟩ 8 (by kernel_rfl) (by kernel_rfl) (by kernel_rfl)
      (x := ([.nil], [], [])) (by kernel_rfl) rfl (by kernel_rfl)) ?_
  intro W base args ds gs before hval hW _ hk _
  exact contract H enc W base args ds gs before hval hW hk

theorem over : Rows.codeMayUptoRow.holds Try.pinned (Rows.OpenSpec.upto Rows.codeMaySpec) :=
  OpenClaim.holds_of_cond 6 Try.f6 rfl rfl rfl rfl rfl rfl rfl ⟨rfl, rfl, rfl, rfl, rfl⟩ rfl rfl rfl rfl rfl (by kernel_rfl) Try.func6 (by kernel_rfl)
    (of_decide_eq_true (by kernel_rfl)) (by unfold Func.isWrapper; first | (rw [if_pos (by decide +kernel)]; kernel_rfl) | (rw [if_neg (by decide +kernel)]; exact ⟨rfl, rfl⟩))
    (fun os started H enc _ F => lifted os started H enc F)

theorem proved : Rows.CodeMayUptoSaid :=
  over
end Go.Proofs.Ytlbmedmddoljnaa.rowMay
