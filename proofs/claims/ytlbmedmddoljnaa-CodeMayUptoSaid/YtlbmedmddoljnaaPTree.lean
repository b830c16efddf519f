/-
  From trees to pipelines.
-/
import Derived.Test.YtlbmedmddoljnaaPSameR
set_option linter.unusedVariables false
set_option linter.unusedSimpArgs false
set_option maxRecDepth 100000
namespace Go.Mu
open Go Go.Proofs
def sOf : T → List UInt8
  | .s x => x
  | _ => []
def iOf : T → Int
  | .i _ n => n
  | _ => 0
def lOf : T → List T
  | .l _ es => es
  | _ => []
def fOf : T → Bool
  | .l f _ => f
  | _ => true
def rAt (t : T) (j : Nat) : T := match t with
  | .r fs => fs.getD j (.r [])
  | _ => .r []
def argOf (t : T) : ArgD := ⟨iOf (rAt t 0), sOf (rAt t 1), fOf (rAt t 2), (lOf (rAt t 2)).map sOf, iOf (rAt t 3), sOf (rAt t 4)⟩
def callOf (t : T) : CallD := ⟨sOf (rAt t 0), fOf (rAt t 1), (lOf (rAt t 1)).map argOf⟩
theorem sub_T {α : Type} {conv : T → α} {E : α → List AVal} {d : α} {f : Bool} {es : List T} (h : ∀ t ∈ es, SubL t.enc (E (conv t))) : Sub (.list f es.length (T.encAt es)) (encL f E d (es.map conv)) := by
  unfold encL
  rw [List.length_map]
  refine Sub.list (fun h => h) (fun i hi => ?_)
  rw [T.encAt_get es i es[i] (List.getElem?_eq_getElem hi)]
  have : (es.map conv).getD i d = conv es[i] := by simp [List.getD_eq_getElem?_getD, List.getElem?_eq_getElem hi]
  rw [this]
  exact h _ (List.getElem_mem hi)
theorem str_T {t : T} (h : HasT Try.prog 9 t) : SubL t.enc (encS (sOf t)) := by
  obtain ⟨s, rfl⟩ := h.str_inv (by kernel_rfl)
  simp only [T.enc, sOf, encS]; exact .refl _
theorem size_le {es : List T} {t : T} {n : Nat} (h : t ∈ es) (hn : T.sizes es ≤ n) : t.size ≤ n := Nat.le_trans (T.size_mem es t h) hn
theorem arg_T {t : T} (h : HasT Try.prog 56 t) (hs : t.size ≤ 1048576) : SubL t.enc (encArg (argOf t)) ∧ okArg (argOf t) := by
  obtain ⟨parts, rfl, hp⟩ := h.struct_inv Try.underlying56
  obtain ⟨x0, xs, rfl, h0, hp⟩ := HasTs.cons_inv hp
  obtain ⟨x1, xs, rfl, h1, hp⟩ := HasTs.cons_inv hp
  obtain ⟨x2, xs, rfl, h2, hp⟩ := HasTs.cons_inv hp
  obtain ⟨x3, xs, rfl, h3, hp⟩ := HasTs.cons_inv hp
  obtain ⟨x4, xs, rfl, h4, hp⟩ := HasTs.cons_inv hp
  obtain rfl := HasTs.nil_inv hp
  obtain ⟨k, rfl, _⟩ := h0.int_inv (k := .i64) (by kernel_rfl)
  obtain ⟨nm, rfl⟩ := h1.str_inv (by kernel_rfl)
  obtain ⟨f, path, rfl, hpath⟩ := h2.slice_inv (e := 9) (by kernel_rfl)
  obtain ⟨n, rfl, _⟩ := h3.int_inv (k := .i64) (by kernel_rfl)
  obtain ⟨tx, rfl⟩ := h4.str_inv (by kernel_rfl)
  have hl := T.length_sizes path
  simp only [T.size, T.sizes] at hs
  refine ⟨?_, ?_, fun s hm => ?_, ?_, ?_⟩
  · simp only [T.enc, T.encAll, List.append_nil, List.singleton_append, List.cons_append, List.nil_append]
    exact .cons (.refl _) (.cons (.refl _) (.cons (sub_T (fun t ht => str_T (hpath t ht))) (.cons (.refl _) (.cons (.refl _) .nil))))
  · simp [argOf, rAt, lOf]; omega
  · simp only [argOf, rAt, lOf, List.getD_cons_succ, List.getD_cons_zero, List.mem_map] at hm
    obtain ⟨t, ht, rfl⟩ := hm
    obtain ⟨x, rfl⟩ := (hpath t ht).str_inv (by kernel_rfl)
    have := T.size_mem path _ ht
    simp only [T.size] at this
    simp only [sOf]; omega
  · simp [argOf, rAt, sOf]; omega
  · simp [argOf, rAt, sOf]; omega
theorem call_T {t : T} (h : HasT Try.prog 59 t) (hs : t.size ≤ 1048576) : SubL t.enc (encCall (callOf t)) ∧ okCall (callOf t) := by
  obtain ⟨parts, rfl, hp⟩ := h.struct_inv Try.underlying59
  obtain ⟨x0, xs, rfl, h0, hp⟩ := HasTs.cons_inv hp
  obtain ⟨x1, xs, rfl, h1, hp⟩ := HasTs.cons_inv hp
  obtain rfl := HasTs.nil_inv hp
  obtain ⟨nm, rfl⟩ := h0.str_inv (by kernel_rfl)
  obtain ⟨f, args, rfl, ha⟩ := h1.slice_inv (e := 56) (by kernel_rfl)
  have hl := T.length_sizes args
  simp only [T.size, T.sizes] at hs
  have ht : ∀ t ∈ args, SubL t.enc (encArg (argOf t)) ∧ okArg (argOf t) := fun t ht => arg_T (ha t ht) (size_le ht (by omega))
  refine ⟨?_, ?_, fun a hm => ?_, ?_⟩
  · simp only [T.enc, T.encAll, List.append_nil, List.singleton_append, List.cons_append, List.nil_append]
    exact .cons (.refl _) (.cons (sub_T (fun t h => (ht t h).1)) .nil)
  · simp [callOf, rAt, lOf]; omega
  · simp only [callOf, rAt, lOf, List.getD_cons_succ, List.getD_cons_zero, List.mem_map] at hm
    obtain ⟨t, h, rfl⟩ := hm
    exact (ht t h).2
  · simp [callOf, rAt, sOf]; omega
theorem pipe_T {es : List T} {full : Bool} (h : ∀ t ∈ es, HasT Try.prog 59 t) (hs : T.sizes es ≤ 1048576) : Sub (.list full es.length (T.encAt es)) (encPipe full (es.map callOf)) ∧ okPipe (es.map callOf) := by
  have ht : ∀ t ∈ es, SubL t.enc (encCall (callOf t)) ∧ okCall (callOf t) := fun t hm => call_T (h t hm) (size_le hm hs)
  have hl := T.length_sizes es
  refine ⟨sub_T (fun t h => (ht t h).1), by simp; omega, fun c hm => ?_⟩
  obtain ⟨t, h, rfl⟩ := List.mem_map.1 hm
  exact (ht t h).2
end Go.Mu
