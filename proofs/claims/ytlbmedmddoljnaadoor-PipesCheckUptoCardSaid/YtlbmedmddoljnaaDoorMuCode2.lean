/-
  Mu: code.
-/
import Derived.Test.YtlbmedmddoljnaaDoorMuCode
set_option linter.unusedVariables false
set_option linter.unusedSimpArgs false
namespace Go.Mu
open Go
variable {P : Program} {h : Hd} {fh : FH} {ops : List Oper} {w w' : World} {a : Act} {E E' : Env} {H H' : Heap} {β β' : Nat → Option Nat} {T : List AVal} {B : Boxes} {G : Tags} {s s' : RS} {o : Oper} {st st' : St}

def RegionsOK (P : Program) (h : Hd) (fh : FH) : Prop := ∀ id ops draw st k out, iRegion P h fh ops draw st k = some out → ∃ e st', CodeOK P (.region id ops draw) st e st' ∧ k e st' = some out

/-- the loops that are told ahead -/
def LOk (P : Program) (fh : FH) : Code → Prop
  | .seq a b => LOk P fh a ∧ LOk P fh b
  | .cond _ a b => LOk P fh a ∧ LOk P fh b
  | .block _ c => LOk P fh c
  | .loop c => LOk P fh c ∧ ∀ sp, fh.loops (firstRegion c) = some sp → ∀ st k out, sp st k = some out → ∃ e st', CodeOK P (.loop c) st e st' ∧ k e st' = some out
  | _ => True
theorem LOk.none (hn : ∀ i, fh.loops i = none) : ∀ c : Code, LOk P fh c := by
  intro c
  induction c <;> simp_all [LOk]
structure FnOK (P : Program) (h : Hd) (fh : FH) (g : FuncId) : Prop where
  reg : RegionsOK P h fh
  lp : ∀ fn c, P.funcs[g]? = some fn → fn.body = some c → LOk P fh c

theorem leaves_normal {x : Exit} {a' : Act} (h : Leaves' w E β H .normal st' x a' w') : x = .normal := by
  obtain ⟨E', β', h1, _⟩ := h
  cases x <;> first | rfl | exact h1.elim
theorem leaves_other {e : AExit} {x : Exit} {a' : Act} (he : e ≠ .normal) (h : Leaves' w E β H e st' x a' w') : x ≠ .normal := by
  obtain ⟨E', β', h1, _⟩ := h
  intro hx; subst hx
  cases e <;> first | exact he rfl | exact h1.elim
theorem then_normal {Q : Exit → Act → World → Prop} {K : Act → World → Prop} {x : Exit} (hx : x = .normal) (hk : K a w) : Exit.then K Q x a w := by subst hx; exact hk
theorem then_other {Q : Exit → Act → World → Prop} {K : Act → World → Prop} {x : Exit} (hx : x ≠ .normal) (hq : Q x a w) : Exit.then K Q x a w := by
  cases x <;> first | exact absurd rfl hx | exact hq

theorem CodeOK.seq {x y : Code} {st1 : St} {e : AExit} (h1 : CodeOK P x st .normal st1) (h2 : CodeOK P y st1 e st') : CodeOK P (.seq x y) st e st' := by
  intro w a E β ci
  refine wp_seq (wp_mono (h1 w a E β ci) (fun x a' w' hl => then_normal (leaves_normal hl) ?_))
  obtain ⟨E', β', _, c1, ev, nw⟩ := hl
  exact wp_mono (h2 w' a' E' β' c1) (fun x a2 w2 hl2 => hl2.trans ev nw)
theorem CodeOK.seq_out {x y : Code} {e : AExit} (he : e ≠ .normal) (h1 : CodeOK P x st e st') : CodeOK P (.seq x y) st e st' := by
  intro w a E β ci
  exact wp_seq (wp_mono (h1 w a E β ci) (fun x a' w' hl => then_other (leaves_other he hl) hl))
theorem CodeOK.block {id : Nat} {c : Code} {e : AExit} (h1 : CodeOK P c st e st') : CodeOK P (.block id c) st (match e with | .exit id' => if id' = id then .normal else .exit id' | e => e) st' := by
  intro w a E β ci
  refine wp_block (wp_mono (h1 w a E β ci) (fun x a' w' hl => ?_))
  obtain ⟨E', β', h1, h2, h3, h4⟩ := hl
  cases e with
  | exit id' =>
    cases x <;> try exact h1.elim
    have h1' : id' = _ := h1
    subst h1'
    simp only [Exit.inBlock]
    split
    · exact ⟨E', β', trivial, h2, h3, h4⟩
    · exact ⟨E', β', rfl, h2, h3, h4⟩
  | normal => cases x <;> first | exact h1.elim | exact ⟨E', β', h1, h2, h3, h4⟩
  | ret => cases x <;> first | exact h1.elim | exact ⟨E', β', h1, h2, h3, h4⟩
  | panic p => cases x <;> first | exact h1.elim | exact ⟨E', β', h1, h2, h3, h4⟩

theorem zipIdx_get {α : Type} (l : List α) (f : α × Nat → α) (t : Nat) (d : α) : (l.zipIdx.map f).getD t d = match l[t]? with | some x => f (x, t) | none => d := by
  simp only [List.getD_eq_getElem?_getD, List.getElem?_map, List.getElem?_zipIdx]
  cases l[t]? <;> simp
theorem CI.forget {lv : Option (List Nat)} (ci : CI w a E β st) : CI w a E β (forget lv st) := by
  cases lv with
  | none => exact ci
  | some l =>
    have fs := ci.fs
    refine ⟨⟨fs.sim, ?_, ?_, by simp [toRS], fun t ht => ?_, fun t b hb => ?_, fs.binj⟩, fun t ht => ?_, fun t d q g ht => ?_, ci.defs⟩
    · rw [fs.tsize]; simp [toRS, Mu.forget]
    · have := fs.bsize
      simpa [toRS, Mu.forget] using this
    · have hv := fs.vals t (valid_none _ _)
      show RepT w E st.H β ((st.T.zipIdx.map _).getD t .undef) _
      rw [zipIdx_get]
      have e : (toRS st).T.getD t .undef = (st.T[t]?).getD .undef := List.getD_eq_getElem?_getD
      rw [e] at hv
      cases hh : st.T[t]? with
      | none => exact .undef _
      | some v =>
        rw [hh] at hv
        simp only
        split
        · exact hv
        · exact .undef _
    · obtain ⟨h1, h2, h3, h4⟩ := fs.box t b hb
      refine ⟨h1, h2, h3, ?_⟩
      have e2 : (toRS (Mu.forget (some l) st)).B.getD t [] = match st.B[t]? with | some x => (if l.contains t then x else []) | none => [] := by
        show (st.B.zipIdx.map (fun x => if l.contains x.2 then x.1 else [])).getD t [] = _
        rw [zipIdx_get]
        cases st.B[t]? <;> rfl
      have e1 : (toRS st).B.getD t [] = (st.B[t]?).getD [] := List.getD_eq_getElem?_getD
      have em : BlockRep w E (toRS (Mu.forget (some l) st)).H b ([] : List AVal).length (fun j => ([] : List AVal)[j]?) := by
        obtain ⟨ds, ty, fr, b1, b2, b3, b4⟩ := h4
        exact ⟨ds, ty, fr, b1, by simp, fun o ho => by simp at ho, fun j v hv => by simp at hv⟩
      rw [e1] at h4
      rw [e2]
      cases hh : st.B[t]? with
      | none => exact em
      | some x =>
        rw [hh] at h4
        simp only
        split
        · exact h4
        · exact em
    · have : valid (toRS (Mu.forget (some l) st)).G t = true := valid_none _ _
      rw [this] at ht; cases ht
    · have : (toRS (Mu.forget (some l) st)).G.getD t none = none := getD_map_none _ _
      rw [this] at ht; cases ht
theorem forget_H {lv : Option (List Nat)} : (forget lv st).H = st.H := by cases lv <;> rfl

theorem rounds_mono {c : Code} {Q Q' : Exit → Act → World → Prop} (h : ∀ x a w, Q x a w → Q' x a w) : ∀ (m : Nat) (a : Act) (w : World), Code.rounds P c Q m a w → Code.rounds P c Q' m a w
  | 0, _, _, hr => hr.elim
  | m + 1, a, w, hr => by
    rw [rounds_succ] at hr ⊢
    refine wp_mono hr (fun x a' w' hx => ?_)
    cases x <;> first | exact rounds_mono h m _ _ hx | exact h _ _ _ hx
theorem iLoop_sound {c : Code} {body : St → Kont → Ans} {lv : Option (List Nat)} (hb : ∀ st k out, body st k = some out → ∃ e st', CodeOK P c st e st' ∧ k e st' = some out) :
    ∀ (n : Nat) (st : St) (k : Kont) (out : Out), iLoop body (forget lv) n st k = some out → ∃ e st' m, (∀ w a E β, CI w a E β st → Code.rounds P c (Leaves' w E β st.H e st') m a w) ∧ k e st' = some out
  | 0, st, k, out, h => by simp [iLoop] at h
  | n + 1, st, k, out, h => by
    simp only [iLoop] at h
    obtain ⟨e, st1, h1, h2⟩ := hb _ _ _ h
    cases e with
    | normal =>
      obtain ⟨e2, st2, m, g1, g2⟩ := iLoop_sound hb n st1 k out h2
      refine ⟨e2, st2, m + 1, fun w a E β ci => ?_, g2⟩
      rw [rounds_succ]
      have := h1 w a E β ci.forget
      rw [forget_H] at this
      refine wp_mono this (fun x a' w' hl => then_normal (leaves_normal hl) ?_)
      obtain ⟨E', β', _, c1, ev, nw⟩ := hl
      exact rounds_mono (fun x a2 w2 hl2 => hl2.trans ev nw) m _ _ (g1 w' a' E' β' c1)
    | exit id => exact ⟨_, st1, 1, fun w a E β ci => by
        have := h1 w a E β ci.forget
        rw [forget_H] at this
        exact wp_mono this (fun x a' w' hl => then_other (leaves_other (by simp) hl) hl), h2⟩
    | ret => exact ⟨_, st1, 1, fun w a E β ci => by
        have := h1 w a E β ci.forget
        rw [forget_H] at this
        exact wp_mono this (fun x a' w' hl => then_other (leaves_other (by simp) hl) hl), h2⟩
    | panic p => exact ⟨_, st1, 1, fun w a E β ci => by
        have := h1 w a E β ci.forget
        rw [forget_H] at this
        exact wp_mono this (fun x a' w' hl => then_other (leaves_other (by simp) hl) hl), h2⟩

theorem iCode_sound (hr : RegionsOK P h fh) {F : Nat} : ∀ (c : Code) (hl : LOk P fh c) (st : St) (k : Kont) (out : Out), iCode P h fh F c st k = some out → ∃ e st', CodeOK P c st e st' ∧ k e st' = some out := by
  intro c
  induction c <;> intro hl st k out hi
  case skip => exact ⟨.normal, st, fun w a E β ci => wp_skip ⟨E, β, trivial, ci, .refl, fun _ _ h => .inl h⟩, hi⟩
  case region id ops draw => exact hr id ops draw st k out hi
  case seq x y ih1 ih2 =>
    simp only [iCode] at hi
    obtain ⟨e, st1, h1, h2⟩ := ih1 hl.1 _ _ _ hi
    cases e with
    | normal =>
      obtain ⟨e2, st2, g1, g2⟩ := ih2 hl.2 _ _ _ h2
      exact ⟨e2, st2, h1.seq g1, g2⟩
    | exit id => exact ⟨_, st1, h1.seq_out (by simp), h2⟩
    | ret => exact ⟨_, st1, h1.seq_out (by simp), h2⟩
    | panic p => exact ⟨_, st1, h1.seq_out (by simp), h2⟩
  case cond c x y ih1 ih2 =>
    simp only [iCode] at hi
    split at hi
    · rename_i q hq
      rw [Bool.cond_eq_ite] at hi
      have hev : ∀ w a E β, CI w a E β st → a.eval c = .bool q := fun w a E β ci => by
        have := aeval_rep ci.fs c (fun t _ => valid_none _ _)
        have e : aeval (toRS st).T c = .bool q := hq
        rw [e] at this
        exact repT_bool this
      split at hi
      · rename_i hqt
        obtain ⟨e, st1, h1, h2⟩ := ih1 hl.1 _ _ _ hi
        exact ⟨e, st1, fun w a E β ci => wp_cond (hev w a E β ci) (by rw [if_pos hqt]; exact h1 w a E β ci), h2⟩
      · rename_i hqf
        obtain ⟨e, st1, h1, h2⟩ := ih2 hl.2 _ _ _ hi
        exact ⟨e, st1, fun w a E β ci => wp_cond (hev w a E β ci) (by rw [if_neg hqf]; exact h1 w a E β ci), h2⟩
    · simp at hi
  case block id c ih =>
    simp only [iCode] at hi
    obtain ⟨e, st1, h1, h2⟩ := ih hl _ _ _ hi
    refine ⟨_, st1, h1.block, ?_⟩
    rw [← h2]
    cases e with
    | exit id' => simp only; split <;> rfl
    | _ => rfl
  case loop c ih =>
    simp only [iCode] at hi
    split at hi
    · rename_i sp hsp
      exact hl.2 sp hsp _ _ _ hi
    · obtain ⟨e, st1, m, h1, h2⟩ := iLoop_sound (ih hl.1) _ _ _ _ hi
      exact ⟨e, st1, fun w a E β ci => wp_loop_rounds m (h1 w a E β ci), h2⟩
  case exit id => exact ⟨.exit id, st, fun w a E β ci => wp_exit ⟨E, β, rfl, ci, .refl, fun _ _ h => .inl h⟩, hi⟩
  case ret => exact ⟨.ret, st, fun w a E β ci => wp_ret ⟨E, β, trivial, ci, .refl, fun _ _ h => .inl h⟩, hi⟩
  all_goals (simp [iCode] at hi)
end Go.Mu
