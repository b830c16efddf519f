/-
  Mu: functions; all of the program.
-/
import Derived.Test.YtlbmedmddoljnaaDoorMuDefer
set_option linter.unusedVariables false
set_option linter.unusedSimpArgs false
namespace Go.Mu
open Go
variable {P : Program} {h : Hd} {fh : FH} {fhs : FuncId → FH} {w w' : World} {a : Act} {E E' : Env} {H H' : Heap} {β β' : Nat → Option Nat} {st st' : St}

theorem CI.drop (ci : CI w a E β st) {H' : Heap} {E' : Env} {w' : World} (ev : Evo No w E st.H w' E' H') (sim : Sim w' E' H') : CI w' a E' β { st with H := H' } :=
  RI.called ci ev sim
theorem CI.noBoxes (ci : CI w a E β st) : CI w a E β { st with B := st.B.map fun _ => [] } := by
  have fs := ci.fs
  refine ⟨⟨fs.sim, fs.tsize, ?_, fs.gsize, fs.vals, fun t b hb => ?_, fs.binj⟩, ci.bad, ci.tag, ci.defs⟩
  · have := fs.bsize
    simpa [toRS] using this
  · obtain ⟨h1, h2, h3, ds, ty, fr, b1, b2, b3, b4⟩ := fs.box t b hb
    have e : ((toRS { st with B := st.B.map fun _ => [] }).B.getD t []) = [] := by
      show ((st.B.map fun _ => ([] : List AVal)).getD t []) = []
      simp only [List.getD_eq_getElem?_getD, List.getElem?_map]
      cases st.B[t]? <;> rfl
    refine ⟨h1, h2, h3, ?_⟩
    rw [e]
    exact ⟨ds, ty, fr, b1, by simp, fun o ho => by simp at ho, fun j v hv => by simp at hv⟩
theorem finish_leaves {fn : Func} {k : Out → Ans} {out : Out} {w0 : World} {E0 : Env} {H0 : Heap} (h : finish P fn st k = some out) : ∃ o, k o = some out ∧ ∀ w a E β, CI w a E β st → Evo No w0 E0 H0 w E st.H → ∃ v, (results fn a.tmps).run P w = .ok v w ∧ Post w0 E0 H0 o (.returned v) w := by
  obtain ⟨vs, h1, h2, h3⟩ := finish_some h
  refine ⟨_, h3, fun w a E β ci ev => ?_⟩
  obtain ⟨v, g1, g2⟩ := results_run ci h1 h2
  exact ⟨v, g1, E, ev, ci.fs.sim, g2⟩

theorem call_of {f : FuncId} {fn : Func} {c : Code} {xs : List AVal} {o : Out} {e : AExit} (hf : P.funcs[f]? = some fn) (hb : fn.body = some c) (hc : CodeOK P c (start fn xs H) e st')
    (hp : ∀ w E x a' w', Leaves' w E (fun _ => none) H e st' x a' w' → bodyPostD P fn (Post w E H o) x a' w') : CallOK P f xs H o := by
  intro w E cs sim hl hr
  refine calls_of_wp_defers hf hb ?_
  refine wp_mono (hc w _ E _ (start_ci sim ⟨hl, hr⟩)) (fun x a' w' hlv => hp w E x a' w' hlv)

theorem iFun_sound (hh : HOK P h) (hr : ∀ g, FnOK P h (fhs g) g) {F : Nat} {f : FuncId} {xs : List AVal} {k : Out → Ans} {out : Out} (hi : iFun P h fhs F f xs H k = some out) : ∃ o, CallOK P f xs H o ∧ k o = some out := by
  unfold iFun at hi
  split at hi
  case h_2 => simp at hi
  rename_i fn hf
  split at hi
  case h_2 => simp at hi
  rename_i c hb
  obtain ⟨e, st', hc, hk⟩ := iCode_sound (hr f).reg c ((hr f).lp fn c hf hb) _ _ _ hi
  have ret : (e = .normal ∨ e = .ret) → (if st'.D.isEmpty then finish P fn st' k else iDefers P h fhs F st'.D none st'.H fun m H' => match m with
        | none => finish P fn { st' with H := H', B := st'.B.map fun _ => [] } k
        | some _ => none) = some out → ∃ o, CallOK P f xs H o ∧ k o = some out := by
    intro he hk
    split at hk
    · rename_i hD
      obtain ⟨vs, h1, h2, h3⟩ := finish_some hk
      refine ⟨_, call_of hf hb hc (fun w E x a' w' hl => ?_), h3⟩
      obtain ⟨E', β', k1, k2, k3, k4⟩ := hl
      obtain ⟨v, g1, g2⟩ := results_run k2 h1 h2
      have hd := defs_nil k2.defs hD
      have key : Leaves P fn a'.tmps (Post w E H (.ret (oneOf vs) st'.H)) a'.defers .returning w' := by
        rw [hd]; exact ⟨v, g1, E', evo_none k3, k2.fs.sim, g2⟩
      rcases he with rfl | rfl
      · cases x <;> first | exact k1.elim | exact key
      · cases x <;> first | exact k1.elim | exact key
    · rename_i hD
      obtain ⟨m', H', g1, g2⟩ := iDefers_sound hh hr _ _ _ _ _ hk
      cases m' with
      | some q => simp at g1
      | none =>
      simp only at g1
      obtain ⟨vs, h1, h2, h3⟩ := finish_some g1
      refine ⟨_, call_of hf hb hc (fun w E x a' w' hl => ?_), h3⟩
      obtain ⟨E', β', k1, k2, k3, k4⟩ := hl
      have key : Leaves P fn a'.tmps (Post w E H (.ret (oneOf vs) H')) a'.defers .returning w' := by
        refine g2 fn a'.tmps _ w' E' a'.defers _ k2.fs.sim k2.defs rfl (fun w2 E2 u2 ev2 sim2 hm2 => ?_)
        rw [show u2 = .returning from hm2]
        obtain ⟨v, q1, q2⟩ := results_run (k2.noBoxes.drop ev2 sim2) h1 h2
        exact ⟨v, q1, E2, evo_none (k3.trans ev2 (fun x hx => absurd hx (fun h => h))), sim2, q2⟩
      rcases he with rfl | rfl
      · cases x <;> first | exact k1.elim | exact key
      · cases x <;> first | exact k1.elim | exact key
  cases e with
  | normal => exact ret (.inl rfl) hk
  | ret => exact ret (.inr rfl) hk
  | exit id => simp at hk
  | panic p =>
    simp only at hk
    split at hk
    · rename_i hD
      refine ⟨_, call_of hf hb hc (fun w E x a' w' hl => ?_), hk⟩
      obtain ⟨E', β', k1, k2, k3, k4⟩ := hl
      have hd := defs_nil k2.defs hD
      cases x <;> try exact k1.elim
      obtain ⟨c, rfl, hrep⟩ := k1
      show Leaves P fn a'.tmps _ a'.defers _ w'
      rw [hd]
      exact ⟨E', c, rfl, evo_none k3, k2.fs.sim, hrep⟩
    · rename_i hD
      obtain ⟨m', H', g1, g2⟩ := iDefers_sound hh hr _ _ _ _ _ hk
      cases m' with
      | none =>
        simp only at g1
        obtain ⟨vs, h1, h2, h3⟩ := finish_some g1
        refine ⟨_, call_of hf hb hc (fun w E x a' w' hl => ?_), h3⟩
        obtain ⟨E', β', k1, k2, k3, k4⟩ := hl
        cases x <;> try exact k1.elim
        obtain ⟨c, rfl, hrep⟩ := k1
        refine g2 fn a'.tmps _ w' E' a'.defers _ k2.fs.sim k2.defs ⟨c, rfl, hrep⟩ (fun w2 E2 u2 ev2 sim2 hm2 => ?_)
        rw [show u2 = .returning from hm2]
        obtain ⟨v, q1, q2⟩ := results_run (k2.drop ev2 sim2) h1 h2
        exact ⟨v, q1, E2, evo_none (k3.trans ev2 (fun x hx => absurd hx (fun h => h))), sim2, q2⟩
      | some q =>
        simp only at g1
        refine ⟨_, call_of hf hb hc (fun w E x a' w' hl => ?_), g1⟩
        obtain ⟨E', β', k1, k2, k3, k4⟩ := hl
        cases x <;> try exact k1.elim
        obtain ⟨c, rfl, hrep⟩ := k1
        refine g2 fn a'.tmps _ w' E' a'.defers _ k2.fs.sim k2.defs ⟨c, rfl, hrep⟩ (fun w2 E2 u2 ev2 sim2 hm2 => ?_)
        obtain ⟨c2, rfl, hr2⟩ := hm2
        exact ⟨E2, c2, rfl, evo_none (k3.trans ev2 (fun x hx => absurd hx (fun h => h))), sim2, hr2⟩
end Go.Mu
