/-
  Mu: loops that are told ahead; states told by what lives.
-/
import Derived.Test.YtlbmedmddoljnaaDoorMuSub
set_option linter.unusedVariables false
set_option linter.unusedSimpArgs false
namespace Go.Mu
open Go
variable {P : Program} {h : Hd} {fh : FH} {w w' : World} {a : Act} {E E' : Env} {H H' : Heap} {β β' : Nat → Option Nat} {st st' : St} {e : AExit}

/-- a state told by what lives: slots and boxes -/
def stL (n : Nat) (lv : List Nat) (vs : List AVal) (bx : List Nat) (bs : List (List AVal)) (H : Heap) (D : List (FuncId × List AVal)) : St :=
  { T := (List.range n).map (fun t => ((lv.zip vs).lookup t).getD .undef), B := (List.range n).map (fun t => ((bx.zip bs).lookup t).getD []), H := H, D := D }
def fg2 (l m : List Nat) (st : St) : St :=
  { T := st.T.zipIdx.map (fun x => if l.contains x.2 then x.1 else .undef), B := st.B.zipIdx.map (fun x => if m.contains x.2 then x.1 else []), H := st.H, D := st.D }
theorem CI.fg2 {l m : List Nat} (ci : CI w a E β st) : CI w a E β (fg2 l m st) := by
    have fs := ci.fs
    refine ⟨⟨fs.sim, ?_, ?_, by simp [toRS], fun t ht => ?_, fun t b hb => ?_, fs.binj⟩, fun t ht => ?_, fun t d q g ht => ?_, ci.defs⟩
    · rw [fs.tsize]; simp [toRS, Mu.fg2]
    · have := fs.bsize
      simpa [toRS, Mu.fg2] using this
    · have hv := fs.vals t (valid_none _ _)
      show RepT w E st.H β ((st.T.zipIdx.map _).getD t .undef) _
      rw [zipIdx_get]
      have e : (toRS st).T.getD t .undef = (st.T[t]?).getD .undef := List.getD_eq_getElem?_getD
      rw [e] at hv
      cases hh : st.T[t]? with
      | none => exact .undef _
      | some v =>
        rw [hh] at hv
        simp only
        split
        · exact hv
        · exact .undef _
    · obtain ⟨h1, h2, h3, h4⟩ := fs.box t b hb
      refine ⟨h1, h2, h3, ?_⟩
      have e2 : (toRS (Mu.fg2 l m st)).B.getD t [] = match st.B[t]? with | some x => (if m.contains t then x else []) | none => [] := by
        show (st.B.zipIdx.map (fun x => if m.contains x.2 then x.1 else [])).getD t [] = _
        rw [zipIdx_get]
        cases st.B[t]? <;> rfl
      have e1 : (toRS st).B.getD t [] = (st.B[t]?).getD [] := List.getD_eq_getElem?_getD
      have em : BlockRep w E (toRS (Mu.fg2 l m st)).H b ([] : List AVal).length (fun j => ([] : List AVal)[j]?) := by
        obtain ⟨ds, ty, fr, b1, b2, b3, b4⟩ := h4
        exact ⟨ds, ty, fr, b1, by simp, fun o ho => by simp at ho, fun j v hv => by simp at hv⟩
      rw [e1] at h4
      rw [e2]
      cases hh : st.B[t]? with
      | none => exact em
      | some x =>
        rw [hh] at h4
        simp only
        split
        · exact h4
        · exact em
    · have : valid (toRS (Mu.fg2 l m st)).G t = true := valid_none _ _
      rw [this] at ht; cases ht
    · have : (toRS (Mu.fg2 l m st)).G.getD t none = none := getD_map_none _ _
      rw [this] at ht; cases ht
theorem CodeOK.fg2 {c : Code} {l m : List Nat} (h : CodeOK P c st e st') : CodeOK P c st e (fg2 l m st') := by
  intro w a E β ci
  refine wp_mono (h w a E β ci) (fun x a' w' hl => ?_)
  obtain ⟨E', β', h1, h2, h3, h4⟩ := hl
  exact ⟨E', β', h1, h2.fg2, h3, h4⟩

theorem lookup_zip {α : Type} (f : Nat → α) (t : Nat) : ∀ l : List Nat, (l.zip (l.map f)).lookup t = if l.contains t then some (f t) else none
  | [] => rfl
  | x :: l => by
    simp only [List.map_cons, List.zip_cons_cons, List.lookup_cons, List.contains_cons]
    by_cases hx : t = x
    · subst hx; simp
    · have h1 : (t == x) = false := by simpa using hx
      simp only [h1, Bool.false_or]
      exact lookup_zip f t l
theorem map_zipIdx {α : Type} (d : α) (n : Nat) (l : List Nat) (T : List α) (hn : T.length = n) : (List.range n).map (fun t => ((l.zip (l.map (fun t => T.getD t d))).lookup t).getD d) = T.zipIdx.map (fun x => if l.contains x.2 then x.1 else d) := by
  apply List.ext_getElem?
  intro i
  simp only [List.getElem?_map, List.getElem?_zipIdx, Nat.zero_add]
  rcases Nat.lt_or_ge i n with g | g
  · rw [List.getElem?_range g, List.getElem?_eq_getElem (by omega)]
    simp only [Option.map_some, lookup_zip]
    split
    · simp [List.getD_eq_getElem?_getD, List.getElem?_eq_getElem (show i < T.length by omega)]
    · rfl
  · rw [List.getElem?_eq_none (by simp; omega), List.getElem?_eq_none (by omega)]
    rfl
theorem fg2_eq {n : Nat} {l m : List Nat} (h1 : st.T.length = n) (h2 : st.B.length = n) : fg2 l m st = stL n l (l.map (fun t => st.T.getD t .undef)) m (m.map (fun t => st.B.getD t [])) st.H st.D := by
  unfold fg2 stL
  rw [map_zipIdx _ _ _ _ h1, map_zipIdx _ _ _ _ h2]

/-- a loop's round; what does not live is forgotten at its end -/
def round (body : St → Kont → Ans) (fg fx : St → St) (st : St) (k : Kont) : Ans :=
  body st fun e st' => match e with
    | .normal => k .normal (fg st')
    | e => k e (fx st')
abbrev rounds (body : St → Kont → Ans) (m : Nat) (st : St) (k : Kont) : Ans := iLoop body (forget none) m st k
theorem rounds_zero {body : St → Kont → Ans} {k : Kont} : rounds body 0 st k = none := rfl
theorem rounds_succ' {body : St → Kont → Ans} {m : Nat} {k : Kont} : rounds body (m + 1) st k = body st fun e st' => match e with
    | .normal => rounds body m st' k
    | e => k e st' := rfl

theorem loop_run (hr : RegionsOK P h fh) {F : Nat} {c : Code} (hl : LOk P fh c) {l m lx mx : List Nat} {n : Nat} (hrun : ∀ k, rounds (round (iCode P h fh F c) (fg2 l m) (fg2 lx mx)) n st k = k e st') : CodeOK P (.loop c) st e st' := by
  have hb : ∀ st k out, round (iCode P h fh F c) (Mu.fg2 l m) (Mu.fg2 lx mx) st k = some out → ∃ e st', CodeOK P c st e st' ∧ k e st' = some out := by
    intro st k out hi
    obtain ⟨e, st', h1, h2⟩ := iCode_sound hr c hl _ _ _ hi
    cases e with
    | normal => exact ⟨_, _, h1.fg2, h2⟩
    | exit id => exact ⟨_, _, h1.fg2, h2⟩
    | ret => exact ⟨_, _, h1.fg2, h2⟩
    | panic p => exact ⟨_, _, h1.fg2, h2⟩
  classical
  obtain ⟨e2, st2, q, h1, h2⟩ := iLoop_sound hb _ _ _ (.ret .undef []) ((hrun (fun e' s' => if e' = e ∧ s' = st' then some (.ret .undef []) else none)).trans (by simp))
  split at h2
  case isFalse => simp at h2
  rename_i hc
  obtain ⟨rfl, rfl⟩ := hc
  exact fun w a E β ci => wp_loop_rounds q (h1 w a E β ci)

/-- the loop whose first region is i -/
def loopAt (i : Nat) : Code → Code
  | .loop c => if firstRegion c == i then c else loopAt i c
  | .block _ c => loopAt i c
  | .seq a b => (match loopAt i a with | .skip => loopAt i b | c => c)
  | .cond _ a b => (match loopAt i a with | .skip => loopAt i b | c => c)
  | _ => .skip
def codeOf (P : Program) (f : FuncId) : Code := match P.funcs[f]? with
  | some fn => match fn.body with
    | some c => c
    | none => .skip
  | none => .skip
/-- a loop, told by what lives ahead of it and behind it -/
abbrev LSp := List AVal → List (List AVal) → Heap → (AExit → List AVal → List (List AVal) → Heap → Ans) → Ans
def loopSpec (n : Nat) (l m lx mx : List Nat) (sp : LSp) (st : St) (k : Kont) : Ans :=
  cond (st.T.length == n && st.B.length == n) (sp (l.map (fun t => st.T.getD t .undef)) (m.map (fun t => st.B.getD t [])) st.H (fun e vs bs H => k e (stL n lx vs mx bs H st.D))) none
theorem stL_len {n : Nat} {l : List Nat} {vs : List AVal} {m : List Nat} {bs : List (List AVal)} {H : Heap} {D : List (FuncId × List AVal)} : (stL n l vs m bs H D).T.length = n := by simp [stL]
theorem stL_get {n : Nat} {l : List Nat} {vs : List AVal} {m : List Nat} {bs : List (List AVal)} {H : Heap} {D : List (FuncId × List AVal)} (t : Nat) : (stL n l vs m bs H D).T.getD t .undef = if t < n then ((l.zip vs).lookup t).getD .undef else .undef := by
  simp only [stL, List.getD_eq_getElem?_getD, List.getElem?_map]
  split
  · rename_i h; rw [List.getElem?_range h]; rfl
  · rename_i h; rw [List.getElem?_eq_none (by simp; omega)]; rfl
theorem CI.stL {n : Nat} {l : List Nat} {vs ws : List AVal} {m : List Nat} {bs : List (List AVal)} {D : List (FuncId × List AVal)} (h : SubTL vs ws) (ci : CI w a E β (stL n l vs m bs H D)) : CI w a E β (stL n l ws m bs H D) := by
  refine ci.sub (by rw [stL_len, stL_len]) (fun t => ?_) rfl rfl rfl
  rw [stL_get, stL_get]
  split
  · exact SubTL.lookup l vs ws h t
  · exact .refl _
/-- how a loop goes on from what lives -/
def LoopRuns (turn : St → Kont → Ans) (n : Nat) (l m lx mx : List Nat) (vs : List AVal) (bs : List (List AVal)) (H : Heap) (e : AExit) (vs' : List AVal) (bs' : List (List AVal)) (H' : Heap) : Prop :=
  ∃ q, ∀ D k, rounds turn q (stL n l vs m bs H D) k = k e (stL n lx vs' mx bs' H' D)
theorem loopSpec_ok (hr : RegionsOK P h fh) {F : Nat} {c : Code} (hl : LOk P fh c) {n : Nat} {l m lx mx : List Nat} {sp : LSp}
    (hs : ∀ vs bs H k out, sp vs bs H k = some out → ∃ ws e vs' bs' H' ws', SubTL vs ws ∧ LoopRuns (round (iCode P h fh F c) (fg2 l m) (fg2 lx mx)) n l m lx mx ws bs H e vs' bs' H' ∧ SubTL vs' ws' ∧ k e ws' bs' H' = some out) :
    ∀ st k out, loopSpec n l m lx mx sp st k = some out → ∃ e st', CodeOK P (.loop c) st e st' ∧ k e st' = some out := by
  intro st k out hi
  unfold loopSpec at hi
  rw [Bool.cond_eq_ite] at hi
  split at hi
  case isFalse => simp at hi
  rename_i hc
  simp only [Bool.and_eq_true, beq_iff_eq] at hc
  obtain ⟨ws, e, vs', bs', H', ws', s1, ⟨q, h1⟩, s2, h2⟩ := hs _ _ _ _ _ hi
  refine ⟨e, _, ?_, h2⟩
  have key : CodeOK P (.loop c) (stL n l ws m (m.map (fun t => st.B.getD t [])) st.H st.D) e (stL n lx vs' mx bs' H' st.D) := loop_run hr hl (fun k => h1 st.D k)
  intro w a E β ci
  have c1 := ci.fg2 (l := l) (m := m)
  rw [fg2_eq hc.1 hc.2] at c1
  refine wp_mono (key w a E β (c1.stL s1)) (fun x a' w' hx => ?_)
  obtain ⟨E', β', g1, g2, g3, g4⟩ := hx
  exact ⟨E', β', g1, g2.stL s2, g3, g4⟩
/-- functions that are told ahead -/
abbrev FSp := List AVal → Heap → (Out → Ans) → Ans
def hd (tab : FuncId → Option FSp) : Hd := fun g xs H k => match tab g with
  | some s => s xs H k
  | none => none
def TabOK (P : Program) (tab : FuncId → Option FSp) : Prop := ∀ g s, tab g = some s → ∀ xs H k out, s xs H k = some out → ∃ o, CallOK P g xs H o ∧ k o = some out
theorem hd_ok {tab : FuncId → Option FSp} (h : TabOK P tab) : HOK P (hd tab) := by
  intro g xs H k out hi
  unfold hd at hi
  split at hi
  · rename_i s hs; exact h g s hs _ _ _ _ hi
  · simp at hi
/-- a function that ends -/
def FRuns (h : Hd) (f : FuncId) (xs : List AVal) (H : Heap) (o : Out) : Prop := ∀ k, h f xs H k = k o
theorem callOK_of (hh : HOK P h) {f : FuncId} {xs : List AVal} {H : Heap} {o : Out} (hr : ∀ k, h f xs H k = k o) : CallOK P f xs H o := by
  classical
  obtain ⟨o', h1, h2⟩ := hh f xs H (fun o' => if o' = o then some o else none) o ((hr _).trans (by simp))
  split at h2
  · rename_i e; rw [← e]; exact h1
  · simp at h2
/-- one round of a loop of a function -/
noncomputable abbrev turn (P : Program) (h : Hd) (fhs : FuncId → FH) (F : Nat) (f id : Nat) (l m lx mx : List Nat) : St → Kont → Ans := round (iCode P h (fhs f) F (loopAt id (codeOf P f))) (fg2 l m) (fg2 lx mx)

/-- the loops of a code -/
def loopsIn : Code → List Code
  | .seq a b => loopsIn a ++ loopsIn b
  | .cond _ a b => loopsIn a ++ loopsIn b
  | .block _ c => loopsIn c
  | .loop c => c :: loopsIn c
  | _ => []
def LoopTold (P : Program) (d : Code) (sp : St → Kont → Ans) : Prop := ∀ st k out, sp st k = some out → ∃ e st', CodeOK P (.loop d) st e st' ∧ k e st' = some out
theorem LOk.of : ∀ c : Code, (∀ d ∈ loopsIn c, ∀ sp, fh.loops (firstRegion d) = some sp → LoopTold P d sp) → LOk P fh c := by
  intro c
  induction c <;> intro hc
  case seq a b ih1 ih2 => exact ⟨ih1 (fun d hd => hc d (by simp [loopsIn, hd])), ih2 (fun d hd => hc d (by simp [loopsIn, hd]))⟩
  case cond x a b ih1 ih2 => exact ⟨ih1 (fun d hd => hc d (by simp [loopsIn, hd])), ih2 (fun d hd => hc d (by simp [loopsIn, hd]))⟩
  case block i c ih => exact ih (fun d hd => hc d (by simpa [loopsIn] using hd))
  case loop c ih => exact ⟨ih (fun d hd => hc d (by simp [loopsIn, hd])), fun sp hsp => hc c (by simp [loopsIn]) sp hsp⟩
  all_goals exact trivial
def only (f : FuncId) (fh : FH) : FuncId → FH := fun g => if g = f then fh else {}
theorem only_ok {f : FuncId} (hl : LOk P fh (codeOf P f)) : LoopsOK P (only f fh) := by
  intro g fn c hf hb
  unfold only
  split
  · rename_i e
    subst e
    have : codeOf P g = c := by unfold codeOf; simp only [hf, hb]
    rw [← this]; exact hl
  · exact LOk.none (fun _ => rfl) c
theorem callOK_told {f : FuncId} (hh : HOK P h) (hl : LOk P fh (codeOf P f)) {F : Nat} {xs : List AVal} {H : Heap} {o : Out} (hr : ∀ k, iFun P h (only f fh) F f xs H k = k o) : CallOK P f xs H o := by
  classical
  have hz : iFun P h (only f fh) F f xs H (fun o' => if o' = o then some o else none) = some o := (hr _).trans (by simp)
  obtain ⟨o', h1, h2⟩ := iFun_sound hh (fun g => ⟨regions_ok hh _, only_ok hl g⟩) hz
  split at h2
  · rename_i e; rw [← e]; exact h1
  · simp at h2
theorem told_hd (t : FuncId → Option FSp) (g : FuncId) (s : FSp) (h : t g = some s) (xs : List AVal) (H : Heap) (k : Out → Ans) : hd t g xs H k = s xs H k := by
  simp [hd, h]
theorem SubT.nilList (r : Nat → List AVal) (full : Bool) : SubT (.list full 0 r) (.list full 0 (fun _ => [])) := Sub.t (Sub.list (fun h => h) (fun i hi => by omega)) rfl
theorem SubT.list {full full' : Bool} {n : Nat} {row row' : Nat → List AVal} (hs : Sub (.list full n row) (.list full' n row')) : SubT (.list full n row) (.list full' n row') := hs.t rfl
end Go.Mu
