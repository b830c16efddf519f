/-
  Mu: functions: their start and their end.
-/
import Derived.Test.YtlbmedmddoljnaaDoorMuCode
set_option linter.unusedVariables false
set_option linter.unusedSimpArgs false
namespace Go.Mu
open Go
variable {P : Program} {h : Hd} {fh : FH} {w w' : World} {a : Act} {E E' : Env} {H H' : Heap} {β β' : Nat → Option Nat} {st st' : St}

def act0 (fn : Func) (args : Array Value) : Act := { tmps := args ++ Array.replicate (fn.ntmps - args.size) undef, defers := [] }

theorem start_ci {fn : Func} {xs : List AVal} {cs : List Value} (sim : Sim w E H) (hr : RepL w E H xs cs) : CI w (act0 fn cs.toArray) E (fun _ => none) (start fn xs H) := by
  have hT : (start fn xs H).T = xs ++ List.replicate (fn.ntmps - xs.length) AVal.undef := rfl
  refine ⟨⟨sim, ?_, ?_, by simp [toRS], fun t _ => ?_, fun t b hb => by simp at hb, fun t u b hb => by simp at hb⟩, fun t ht => ?_, fun t d q g ht => ?_, .nil⟩
  · simp [act0, toRS, start, hr.1]
  · simp [toRS, start]
  · show RepT w E H (fun _ => none) ((xs ++ List.replicate (fn.ntmps - xs.length) AVal.undef).getD t AVal.undef) _
    simp only [List.getD_eq_getElem?_getD]
    rcases Nat.lt_or_ge t xs.length with g | g
    · rw [List.getElem?_append_left g]
      have := hr.2 t g
      simp only [List.getD_eq_getElem?_getD] at this
      refine .val _ _ ?_
      have e : (act0 fn cs.toArray).tmps.getD t undef = cs[t]?.getD undef := by
        simp only [act0, Array.getD_eq_getD_getElem?]
        rw [Array.getElem?_append_left (by simp [hr.1, g])]
        simp
      rw [e]; exact this
    · rw [List.getElem?_append_right g]
      have : ((List.replicate (fn.ntmps - xs.length) AVal.undef)[t - xs.length]?).getD .undef = .undef := by
        rw [List.getElem?_replicate]; split <;> rfl
      rw [this]; exact .undef _
  · have : valid (toRS (start fn xs H)).G t = true := valid_none _ _
    rw [this] at ht; cases ht
  · have : (toRS (start fn xs H)).G.getD t none = none := getD_map_none _ _
    rw [this] at ht; cases ht

theorem resAll_run (ci : CI w a E β st) : ∀ (rs : List ResultVar) (ok : Bool) (vs : List AVal), resAll P st.T st.B st.H rs = some (ok, vs) → ok = true → vs.all noTmp = true →
    ∃ l : List Value, (rs.mapM (fun r => (match r with | .tmp t => pure (a.tmps.getD t undef) | .cell b t => do loadVar t (← asAddr (a.tmps.getD b undef)) : Sem Value))).run P w = .ok l w ∧ RepL w E st.H vs l
  | [], ok, vs, h, hok, hn => by
    simp only [resAll, Option.some.injEq, Prod.mk.injEq] at h
    obtain ⟨rfl, rfl⟩ := h
    exact ⟨[], by simp, rfl, fun j hj => by simp at hj⟩
  | r :: rs, ok, vs, h, hok, hn => by
    simp only [resAll] at h
    split at h
    · rename_i ok1 v ok2 vs2 h1 h2
      simp only [Option.some.injEq, Prod.mk.injEq] at h
      obtain ⟨rfl, rfl⟩ := h
      simp only [Bool.and_eq_true] at hok
      simp only [List.all_cons, Bool.and_eq_true] at hn
      obtain ⟨l, hl, hrl⟩ := resAll_run ci rs ok2 vs2 h2 hok.2 hn.2
      have one : ∃ c, ((match r with | .tmp t => pure (a.tmps.getD t undef) | .cell b t => do loadVar t (← asAddr (a.tmps.getD b undef)) : Sem Value)).run P w = .ok c w ∧ Rep w E st.H v c := by
        cases r with
        | tmp t =>
          simp only [resA, Option.some.injEq, Prod.mk.injEq] at h1
          obtain ⟨_, rfl⟩ := h1
          exact ⟨_, by simp, noTmp_rep hn.1 (ci.fs.vals t (valid_none _ _))⟩
        | cell b t =>
          simp only [resA] at h1
          rw [hok.1] at h1
          obtain ⟨blk, off, d, e, hd, hrep⟩ := loadA_run ci.fs h1 (ci.fs.vals b (valid_none _ _))
          refine ⟨d, ?_, hrep⟩
          simp only [Sem.run_bind, e, asAddr, Sem.run_pure, Result.andThen_ok, hd]
      obtain ⟨c, hc, hrc⟩ := one
      refine ⟨c :: l, ?_, by simp [hrl.1], fun j hj => ?_⟩
      · rw [List.mapM_cons]
        simp only [Sem.run_bind, hc, Result.andThen_ok, hl, Sem.run_pure]
      · cases j with
        | zero => exact hrc
        | succ j => exact hrl.2 j (by simpa using hj)
    · simp at h
theorem oneOf_rep {vs : List AVal} {l : List Value} (h : RepL w E H vs l) : Rep w E H (oneOf vs) (if h : l.toArray.size = 1 then l.toArray[0] else .tuple l.toArray) := by
  have tup : ∀ vs : List AVal, RepL w E H vs l → Rep w E H (.tuple vs) (.tuple l.toArray) := fun vs h => .tuple vs l h.1.symm h.2
  match vs, l, h with
  | [v], [c], h =>
    simp only [oneOf]
    have := h.2 0 (by simp)
    simpa using this
  | [], l, h =>
    have : l = [] := List.eq_nil_of_length_eq_zero h.1
    subst this
    exact .tuple [] [] rfl (fun j hj => by simp at hj)
  | [v], [], h => simp [RepL] at h
  | [v], c :: d :: l, h => simp [RepL] at h
  | v :: u :: vs, l, h =>
    have hl := h.1
    simp only [oneOf]
    rw [dif_neg (by simp [hl])]
    exact .tuple _ l h.1.symm h.2
theorem results_run {fn : Func} (ci : CI w a E β st) {vs : List AVal} (h : resAll P st.T st.B st.H fn.results.toList = some (true, vs)) (hn : vs.all noTmp = true) : ∃ v, (results fn a.tmps).run P w = .ok v w ∧ Rep w E st.H (oneOf vs) v := by
  obtain ⟨l, hl, hr⟩ := resAll_run ci _ _ _ h rfl hn
  refine ⟨_, ?_, oneOf_rep hr⟩
  have hm : (fn.results.mapM (fun r => (match r with | .tmp t => pure (a.tmps.getD t undef) | .cell b t => do loadVar t (← asAddr (a.tmps.getD b undef)) : Sem Value))).run P w = .ok l.toArray w := by
    rw [← Array.toArray_toList (xs := fn.results), List.mapM_toArray]
    simp only [Sem.run_map, hl, Result.andThen_ok]
  unfold results
  simp only [Sem.run_bind]
  erw [hm]
  simp only [Result.andThen_ok, Sem.run_pure]

theorem finish_some {fn : Func} {k : Out → Ans} {out : Out} (h : finish P fn st k = some out) : ∃ vs, resAll P st.T st.B st.H fn.results.toList = some (true, vs) ∧ vs.all noTmp = true ∧ k (.ret (oneOf vs) st.H) = some out := by
  unfold finish at h
  split at h
  · rename_i ok vs hr
    rw [Bool.cond_eq_ite] at h
    split at h
    · rename_i hc
      simp only [Bool.and_eq_true] at hc
      obtain ⟨rfl, h2⟩ := hc
      exact ⟨vs, hr, h2, h⟩
    · simp at h
  · simp at h
theorem evo_none (ev : Evo (Xβ (fun _ => none)) w E H w' E' H') : Evo No w E H w' E' H' := ev.weaken (fun x hx => by obtain ⟨t, ht⟩ := hx; simp at ht)
theorem defs_nil {D : List (FuncId × List AVal)} {ds : List Deferred} (h : DefRep w E H D ds) (hd : D.isEmpty = true) : ds = [] := by
  cases h with
  | nil => rfl
  | cons _ _ => simp at hd
end Go.Mu
