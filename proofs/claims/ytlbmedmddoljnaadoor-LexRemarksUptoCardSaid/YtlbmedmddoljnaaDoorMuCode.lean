/-
  Mu: regions in the order of the text; code.
-/
import Derived.Test.YtlbmedmddoljnaaDoorMuRun
import Derived.LoopN
import Derived.Tactics
set_option linter.unusedVariables false
set_option linter.unusedSimpArgs false
namespace Go.Mu
open Go
variable {P : Program} {h : Hd} {fh : FH} {ops : List Oper} {w w' : World} {a : Act} {E E' : Env} {H H' : Heap} {β β' : Nat → Option Nat} {T : List AVal} {B : Boxes} {G : Tags} {s s' : RS} {o : Oper} {st st' : St}

def toRS (st : St) : RS := { T := st.T, B := st.B, H := st.H, D := st.D, G := st.T.map fun _ => none }
def CI (w : World) (a : Act) (E : Env) (β : Nat → Option Nat) (st : St) : Prop := RI w a E β (toRS st)

def ExitRep (w : World) (E : Env) (H : Heap) : AExit → Exit → Prop
  | .normal, .normal => True
  | .exit id, .exit id' => id = id'
  | .ret, .ret => True
  | .panic p, .panic chain => ∃ c, chain = [{ v := c, recovered := false }] ∧ Rep w E H p c
  | _, _ => False

def Leaves' (w : World) (E : Env) (β : Nat → Option Nat) (H : Heap) (e : AExit) (st' : St) (x : Exit) (a' : Act) (w' : World) : Prop :=
  ∃ E' β', ExitRep w' E' st'.H e x ∧ CI w' a' E' β' st' ∧ Evo (Xβ β) w E H w' E' st'.H ∧ ∀ t b, β' t = some b → β t = some b ∨ w.heap.size ≤ b

def CodeOK (P : Program) (c : Code) (st : St) (e : AExit) (st' : St) : Prop :=
  ∀ w a E β, CI w a E β st → c.wp P (Leaves' w E β st.H e st') a w

theorem Leaves'.trans {w1 : World} {E1 : Env} {β1 : Nat → Option Nat} {H1 : Heap} {e : AExit} {x : Exit} {a2 : Act} {w2 : World} (ev : Evo (Xβ β) w E H w1 E1 H1) (nw : ∀ t b, β1 t = some b → β t = some b ∨ w.heap.size ≤ b) (h : Leaves' w1 E1 β1 H1 e st' x a2 w2) : Leaves' w E β H e st' x a2 w2 := by
  obtain ⟨E2, β2, h1, h2, h3, h4⟩ := h
  refine ⟨E2, β2, h1, h2, ev.trans h3 (fun b hb => ?_), fun t b hb => ?_⟩
  · obtain ⟨t, ht⟩ := hb
    exact (nw t b ht).imp (fun g => ⟨t, g⟩) id
  · rcases h4 t b hb with g | g
    · exact nw t b g
    · exact .inr (Nat.le_trans ev.size g)

theorem Next.trans {w1 w2 : World} {a1 a2 : Act} {E1 E2 : Env} {β1 β2 : Nat → Option Nat} {s1 s2 : RS} (h1 : Next w E β H w1 a1 E1 β1 s1) (h2 : Next w1 E1 β1 s1.H w2 a2 E2 β2 s2) : Next w E β H w2 a2 E2 β2 s2 := by
  refine ⟨h2.ri, h1.evo.trans h2.evo (fun b hb => ?_), fun t b hb => ?_⟩
  · obtain ⟨t, ht⟩ := hb
    exact (h1.new t b ht).imp (fun g => ⟨t, g⟩) id
  · rcases h2.new t b hb with g | g
    · exact h1.new t b g
    · exact .inr (Nat.le_trans h1.evo.size g)

/- what is left of a frame -/
theorem getD_map_none (T : List AVal) (t : Nat) : ((T.map fun _ => none : Tags)).getD t none = none := by
  simp only [List.getD_eq_getElem?_getD, List.getElem?_map]
  cases T[t]? <;> rfl
theorem valid_none (T : List AVal) (t : Nat) : valid (T.map fun _ => none) t = true := by
  unfold valid; rw [getD_map_none]
theorem untag_get (s : RS) (hl : s.G.length = s.T.length) (t : Nat) : (untag s).T.getD t .undef = if (s.G.getD t none).isNone then s.T.getD t .undef else .undef := by
  simp only [untag, List.getD_eq_getElem?_getD, List.getElem?_map]
  rcases Nat.lt_or_ge t s.T.length with g | g
  · have hz : (s.T.zip s.G)[t]? = some (s.T[t], s.G[t]'(by omega)) := by
      rw [List.getElem?_eq_getElem (by simp; omega), List.getElem_zip]
    rw [hz, List.getElem?_eq_getElem g, List.getElem?_eq_getElem (show t < s.G.length by omega)]
    simp only [Option.map_some, Option.getD_some]
    cases s.G[t]'(by omega) <;> rfl
  · rw [List.getElem?_eq_none (by simp; omega), List.getElem?_eq_none g]
    split <;> rfl
theorem RI.untag (ri : RI w a E β s) : CI w a E β (untag s) := by
  have hl := ri.fs.gsize
  have hlen : (Mu.untag s).T.length = s.T.length := by simp [Mu.untag]; omega
  refine ⟨⟨ri.fs.sim, by rw [ri.fs.tsize]; exact hlen.symm, by show s.B.length = (Mu.untag s).T.length; rw [hlen]; exact ri.fs.bsize, by simp [toRS], fun t _ => ?_, ri.fs.box, ri.fs.binj⟩,
    fun t ht => ?_, fun t d q g ht => ?_, ri.defs⟩
  · show RepT w E s.H β ((Mu.untag s).T.getD t .undef) _
    rw [untag_get s hl]
    split
    · rename_i hn
      refine ri.fs.vals t ?_
      unfold valid
      rw [Option.isNone_iff_eq_none.1 hn]
    · exact .undef _
  · have : valid (toRS (Mu.untag s)).G t = true := valid_none _ _
    rw [this] at ht; cases ht
  · have : (toRS (Mu.untag s)).G.getD t none = none := getD_map_none _ _
    rw [this] at ht; cases ht

/- what a region leaves alone -/
theorem dropDsts_get : ∀ (l : List Oper) (T : List AVal) (t : Nat), ((∃ o ∈ l, o.dst = some t) → (dropDsts l T).getD t .undef = .undef) ∧ ((∀ o ∈ l, o.dst ≠ some t) → (dropDsts l T).getD t .undef = T.getD t .undef) ∧ (dropDsts l T).length = T.length
  | [], T, t => ⟨fun ⟨o, h, _⟩ => by simp at h, fun _ => rfl, rfl⟩
  | o :: l, T, t => by
    have ih := dropDsts_get l (setDst T o.dst .undef) t
    have e : dropDsts (o :: l) T = dropDsts l (setDst T o.dst .undef) := rfl
    rw [e]
    refine ⟨fun ⟨p, hp, hd⟩ => ?_, fun hn => ?_, by rw [ih.2.2, setDst_length]⟩
    · by_cases hex : ∃ o ∈ l, o.dst = some t
      · exact ih.1 hex
      · rw [ih.2.1 (fun q hq hqd => hex ⟨q, hq, hqd⟩)]
        rcases List.mem_cons.1 hp with rfl | hp
        · rw [hd, setDst_same]; split <;> rfl
        · exact absurd ⟨p, hp, hd⟩ hex
    · rw [ih.2.1 (fun p hp => hn p (by simp [hp])), setDst_other (hn o (by simp))]
theorem OpRun.keeps {i : Nat} {recs : List Rec} (h : OpRun P fh ops i o s recs s') {t : Nat} (ht : o.dst ≠ some t) : s'.T.getD t .undef = s.T.getD t .undef ∧ s'.G.getD t none = s.G.getD t none ∧ s'.T.length = s.T.length := by
  cases h <;> exact ⟨setDst_other ht, by first | exact addTag_other ht | rfl, setDst_length _ _⟩
theorem OpPan.keeps {p : AVal} (h : OpPan P fh ops o s p s') : s'.T = s.T ∧ s'.G = s.G := by
  cases h <;> exact ⟨rfl, rfl⟩
theorem drop_mem {l : List Oper} {i : Nat} (h : ops.drop i = o :: l) : ops[i]? = some o ∧ ops.drop (i + 1) = l := by
  have h1 : (ops.drop i)[0]? = some o := by rw [h]; rfl
  rw [List.getElem?_drop] at h1
  refine ⟨h1, ?_⟩
  rw [← List.drop_drop, h]; rfl

/-- a panic out of a region -/
theorem RI.panicked {st : St} (ri : RI w a E β s) (hT : ∀ t, (∀ o ∈ ops, o.dst ≠ some t) → s.T.getD t .undef = st.T.getD t .undef ∧ s.G.getD t none = none) (hl : s.T.length = st.T.length) (hB : s.B.length = st.B.length) :
    CI w a E β { T := dropDsts ops st.T, B := st.B.map fun _ => [], H := s.H, D := s.D } := by
  have hlen : (dropDsts ops st.T).length = st.T.length := (dropDsts_get ops st.T 0).2.2
  have hsl : a.tmps.size = (dropDsts ops st.T).length := by rw [ri.fs.tsize, hl, hlen]
  refine ⟨⟨ri.fs.sim, hsl, ?_, by simp [toRS], fun t _ => ?_, fun t b hb => ?_, ri.fs.binj⟩, fun t ht => ?_, fun t d q g ht => ?_, ri.defs⟩
  · show (st.B.map fun _ => ([] : List AVal)).length = (dropDsts ops st.T).length
    rw [List.length_map, ← hB, ri.fs.bsize, hl, hlen]
  · show RepT w E s.H β ((dropDsts ops st.T).getD t .undef) _
    by_cases hex : ∃ o ∈ ops, o.dst = some t
    · rw [(dropDsts_get ops st.T t).1 hex]; exact .undef _
    · have hn : ∀ o ∈ ops, o.dst ≠ some t := fun o ho hd => hex ⟨o, ho, hd⟩
      obtain ⟨h1, h2⟩ := hT t hn
      rw [(dropDsts_get ops st.T t).2.1 hn, ← h1]
      exact ri.fs.vals t (by unfold valid; rw [h2])
  · obtain ⟨h1, h2, h3, ds, ty, fr, b1, b2, b3, b4⟩ := ri.fs.box t b hb
    have e : ((toRS { T := dropDsts ops st.T, B := st.B.map fun _ => [], H := s.H, D := s.D }).B.getD t []) = [] := by
      show ((st.B.map fun _ => ([] : List AVal)).getD t []) = []
      simp only [List.getD_eq_getElem?_getD, List.getElem?_map]
      cases st.B[t]? <;> rfl
    refine ⟨h1, h2, h3, ?_⟩
    rw [e]
    exact ⟨ds, ty, fr, b1, by simp, fun o ho => by simp at ho, fun j v hv => by simp at hv⟩
  · have : valid (toRS { T := dropDsts ops st.T, B := st.B.map fun _ => [], H := s.H, D := s.D }).G t = true := valid_none _ _
    rw [this] at ht; cases ht
  · have : (toRS { T := dropDsts ops st.T, B := st.B.map fun _ => [], H := s.H, D := s.D }).G.getD t none = none := getD_map_none _ _
    rw [this] at ht; cases ht

/-- the operations, in the order of the text -/
theorem ops_sound {Q : Exit → Act → World → Prop} : ∀ (l : List Oper) (i : Nat) (s : RS) (recs : List Rec) (s' : RS), OpsRun P fh ops l i s recs s' → ops.drop i = l → ∀ {w a E β}, RI w a E β s →
    (∀ w' a' E' β', Next w E β s.H w' a' E' β' s' → Q .normal a' w') → wpOps P ops.toArray Q (List.range' i l.length) a w
  | [], i, s, _, _, .nil _ _, _, w, a, E, β, ri, hQ => by
    simp only [List.length_nil, List.range'_zero, wpOps]
    exact hQ w a E β ⟨ri, .refl, fun _ _ h => .inl h⟩
  | o :: l, i, s, _, s', .cons (s1 := s1) h1 h2, hd, w, a, E, β, ri, hQ => by
    obtain ⟨g1, g2⟩ := drop_mem hd
    rw [List.length_cons, List.range'_succ, wpOps_cons]
    refine op_sound h1 g1 ri (fun w1 a1 E1 β1 n1 => ?_)
    exact ops_sound l (i + 1) s1 _ s' h2 g2 n1.ri (fun w' a' E' β' n2 => hQ _ _ _ _ (n1.trans n2))
theorem ops_panics {Q : Exit → Act → World → Prop} : ∀ (l : List Oper) (i : Nat) (s : RS) (j : Nat) (recs : List Rec) (p : AVal) (s' : RS), OpsPan P fh ops l i s j recs p s' → ops.drop i = l → ∀ {w a E β}, RI w a E β s →
    (∀ w' a' E' β' c, RI w' a' E' β' s' → Evo (Xβ β) w E s.H w' E' s'.H → (∀ t b, β' t = some b → β t = some b ∨ w.heap.size ≤ b) → Rep w' E' s'.H p c → Q (.panic [{ v := c, recovered := false }]) a' w') → wpOps P ops.toArray Q (List.range' i l.length) a w
  | [], i, s, _, _, _, _, h, _, w, a, E, β, ri, hQ => by cases h
  | o :: l, i, s, _, _, p, s', .here h1, hd, w, a, E, β, ri, hQ => by
    obtain ⟨g1, g2⟩ := drop_mem hd
    rw [List.length_cons, List.range'_succ, wpOps_cons]
    exact pan_sound h1 g1 ri (fun w' E' c f => hQ w' a E' β c f.ri f.evo (fun _ _ h => .inl h) f.rep)
  | o :: l, i, s, j, _, p, s', .later (s1 := s1) h1 h2, hd, w, a, E, β, ri, hQ => by
    obtain ⟨g1, g2⟩ := drop_mem hd
    rw [List.length_cons, List.range'_succ, wpOps_cons]
    refine op_sound h1 g1 ri (fun w1 a1 E1 β1 n1 => ?_)
    refine ops_panics l (i + 1) s1 _ _ p s' h2 g2 n1.ri (fun w' a' E' β' c r1 r2 r3 r4 => ?_)
    refine hQ w' a' E' β' c r1 (n1.evo.trans r2 (fun b hb => ?_)) (fun t b hb => ?_) r4
    · obtain ⟨t, ht⟩ := hb
      exact (n1.new t b ht).imp (fun g => ⟨t, g⟩) id
    · rcases r3 t b hb with g | g
      · exact n1.new t b g
      · exact .inr (Nat.le_trans n1.evo.size g)
theorem OpsPan.keeps : ∀ {l : List Oper} {i : Nat} {s : RS} {j : Nat} {recs : List Rec} {p : AVal} {s' : RS}, OpsPan P fh ops l i s j recs p s' → ∀ t, (∀ o ∈ l, o.dst ≠ some t) → s'.T.getD t .undef = s.T.getD t .undef ∧ s'.G.getD t none = s.G.getD t none
  | _, _, _, _, _, _, _, .here h, t, ht => by obtain ⟨e1, e2⟩ := h.keeps; rw [e1, e2]; exact ⟨rfl, rfl⟩
  | _, _, _, _, _, _, _, .later h1 h2, t, ht => by
    obtain ⟨e1, e2, _⟩ := h1.keeps (ht _ (by simp))
    obtain ⟨g1, g2⟩ := h2.keeps t (fun o ho => ht o (by simp [ho]))
    exact ⟨g1.trans e1, g2.trans e2⟩
theorem OpsPan.len : ∀ {l : List Oper} {i : Nat} {s : RS} {j : Nat} {recs : List Rec} {p : AVal} {s' : RS}, OpsPan P fh ops l i s j recs p s' → s'.T.length = s.T.length
  | _, _, _, _, _, _, _, .here h => by obtain ⟨e1, e2⟩ := h.keeps; rw [e1]
  | _, _, _, _, _, _, _, .later h1 h2 => by
    refine h2.len.trans ?_
    cases h1 <;> exact setDst_length _ _

theorem region_sound (hh : HOK P h) {id : Nat} {ops : Array Oper} {k : Kont} {out : Out} (hi : iRegion P h fh ops false st k = some out) : ∃ e st', CodeOK P (.region id ops false) st e st' ∧ k e st' = some out := by
  simp only [iRegion, withUntag_eq, iOps_eq] at hi
  have hrange : List.range ops.size = List.range' 0 ops.toList.length := by rw [List.range_eq_range']; simp
  rcases iOps_run hh _ _ _ _ _ _ (TagInv.none _) hi with ⟨recs, s', h1, h2⟩ | ⟨j, recs, p, s', h1, h2⟩
  · refine ⟨.normal, _, fun w a E β ci => ?_, h2⟩
    refine wp_region ?_
    rw [hrange]
    have := ops_sound (Q := Leaves' w E β st.H .normal (untag s')) (ops := ops.toList) _ 0 _ _ _ h1 rfl ci (fun w' a' E' β' n => ⟨E', β', trivial, n.ri.untag, n.evo, n.new⟩)
    exact this
  · refine ⟨.panic p, _, fun w a E β ci => ?_, h2⟩
    refine wp_region ?_
    rw [hrange]
    have := ops_panics (Q := Leaves' w E β st.H (.panic p) { T := dropDsts ops.toList st.T, B := st.B.map fun _ => [], H := s'.H, D := s'.D }) (ops := ops.toList) _ 0 _ _ _ _ _ h1 rfl ci (fun w' a' E' β' c r1 r2 r3 r4 =>
      ⟨E', β', ⟨c, rfl, r4⟩, r1.panicked (fun t ht => ⟨(h1.keeps t ht).1, (h1.keeps t ht).2.trans (getD_map_none _ _)⟩) h1.len (by
        have e1 := r1.fs.bsize
        have e2 := ci.fs.bsize
        rw [e1, h1.len]; exact e2.symm), r2, r3⟩)
    exact this
end Go.Mu
/-
  Mu: code.
-/
namespace Go.Mu
open Go
variable {P : Program} {h : Hd} {fh : FH} {ops : List Oper} {w w' : World} {a : Act} {E E' : Env} {H H' : Heap} {β β' : Nat → Option Nat} {T : List AVal} {B : Boxes} {G : Tags} {s s' : RS} {o : Oper} {st st' : St}

def RegionsOK (P : Program) (h : Hd) (fh : FH) : Prop := ∀ id ops draw st k out, iRegion P h fh ops draw st k = some out → ∃ e st', CodeOK P (.region id ops draw) st e st' ∧ k e st' = some out

/-- the loops that are told ahead -/
def LOk (P : Program) (fh : FH) : Code → Prop
  | .seq a b => LOk P fh a ∧ LOk P fh b
  | .cond _ a b => LOk P fh a ∧ LOk P fh b
  | .block _ c => LOk P fh c
  | .loop c => LOk P fh c ∧ ∀ sp, fh.loops (firstRegion c) = some sp → ∀ st k out, sp st k = some out → ∃ e st', CodeOK P (.loop c) st e st' ∧ k e st' = some out
  | _ => True
theorem LOk.none (hn : ∀ i, fh.loops i = none) : ∀ c : Code, LOk P fh c := by
  intro c
  induction c <;> simp_all [LOk]
structure FnOK (P : Program) (h : Hd) (fh : FH) (g : FuncId) : Prop where
  reg : RegionsOK P h fh
  lp : ∀ fn c, P.funcs[g]? = some fn → fn.body = some c → LOk P fh c

theorem leaves_normal {x : Exit} {a' : Act} (h : Leaves' w E β H .normal st' x a' w') : x = .normal := by
  obtain ⟨E', β', h1, _⟩ := h
  cases x <;> first | rfl | exact h1.elim
theorem leaves_other {e : AExit} {x : Exit} {a' : Act} (he : e ≠ .normal) (h : Leaves' w E β H e st' x a' w') : x ≠ .normal := by
  obtain ⟨E', β', h1, _⟩ := h
  intro hx; subst hx
  cases e <;> first | exact he rfl | exact h1.elim
theorem then_normal {Q : Exit → Act → World → Prop} {K : Act → World → Prop} {x : Exit} (hx : x = .normal) (hk : K a w) : Exit.then K Q x a w := by subst hx; exact hk
theorem then_other {Q : Exit → Act → World → Prop} {K : Act → World → Prop} {x : Exit} (hx : x ≠ .normal) (hq : Q x a w) : Exit.then K Q x a w := by
  cases x <;> first | exact absurd rfl hx | exact hq

theorem CodeOK.seq {x y : Code} {st1 : St} {e : AExit} (h1 : CodeOK P x st .normal st1) (h2 : CodeOK P y st1 e st') : CodeOK P (.seq x y) st e st' := by
  intro w a E β ci
  refine wp_seq (wp_mono (h1 w a E β ci) (fun x a' w' hl => then_normal (leaves_normal hl) ?_))
  obtain ⟨E', β', _, c1, ev, nw⟩ := hl
  exact wp_mono (h2 w' a' E' β' c1) (fun x a2 w2 hl2 => hl2.trans ev nw)
theorem CodeOK.seq_out {x y : Code} {e : AExit} (he : e ≠ .normal) (h1 : CodeOK P x st e st') : CodeOK P (.seq x y) st e st' := by
  intro w a E β ci
  exact wp_seq (wp_mono (h1 w a E β ci) (fun x a' w' hl => then_other (leaves_other he hl) hl))
theorem CodeOK.block {id : Nat} {c : Code} {e : AExit} (h1 : CodeOK P c st e st') : CodeOK P (.block id c) st (match e with | .exit id' => if id' = id then .normal else .exit id' | e => e) st' := by
  intro w a E β ci
  refine wp_block (wp_mono (h1 w a E β ci) (fun x a' w' hl => ?_))
  obtain ⟨E', β', h1, h2, h3, h4⟩ := hl
  cases e with
  | exit id' =>
    cases x <;> try exact h1.elim
    have h1' : id' = _ := h1
    subst h1'
    simp only [Exit.inBlock]
    split
    · exact ⟨E', β', trivial, h2, h3, h4⟩
    · exact ⟨E', β', rfl, h2, h3, h4⟩
  | normal => cases x <;> first | exact h1.elim | exact ⟨E', β', h1, h2, h3, h4⟩
  | ret => cases x <;> first | exact h1.elim | exact ⟨E', β', h1, h2, h3, h4⟩
  | panic p => cases x <;> first | exact h1.elim | exact ⟨E', β', h1, h2, h3, h4⟩

theorem zipIdx_get {α : Type} (l : List α) (f : α × Nat → α) (t : Nat) (d : α) : (l.zipIdx.map f).getD t d = match l[t]? with | some x => f (x, t) | none => d := by
  simp only [List.getD_eq_getElem?_getD, List.getElem?_map, List.getElem?_zipIdx]
  cases l[t]? <;> simp
theorem CI.forget {lv : Option (List Nat)} (ci : CI w a E β st) : CI w a E β (forget lv st) := by
  cases lv with
  | none => exact ci
  | some l =>
    have fs := ci.fs
    refine ⟨⟨fs.sim, ?_, ?_, by simp [toRS], fun t ht => ?_, fun t b hb => ?_, fs.binj⟩, fun t ht => ?_, fun t d q g ht => ?_, ci.defs⟩
    · rw [fs.tsize]; simp [toRS, Mu.forget]
    · have := fs.bsize
      simpa [toRS, Mu.forget] using this
    · have hv := fs.vals t (valid_none _ _)
      show RepT w E st.H β ((st.T.zipIdx.map _).getD t .undef) _
      rw [zipIdx_get]
      have e : (toRS st).T.getD t .undef = (st.T[t]?).getD .undef := List.getD_eq_getElem?_getD
      rw [e] at hv
      cases hh : st.T[t]? with
      | none => exact .undef _
      | some v =>
        rw [hh] at hv
        simp only
        split
        · exact hv
        · exact .undef _
    · obtain ⟨h1, h2, h3, h4⟩ := fs.box t b hb
      refine ⟨h1, h2, h3, ?_⟩
      have e2 : (toRS (Mu.forget (some l) st)).B.getD t [] = match st.B[t]? with | some x => (if l.contains t then x else []) | none => [] := by
        show (st.B.zipIdx.map (fun x => if l.contains x.2 then x.1 else [])).getD t [] = _
        rw [zipIdx_get]
        cases st.B[t]? <;> rfl
      have e1 : (toRS st).B.getD t [] = (st.B[t]?).getD [] := List.getD_eq_getElem?_getD
      have em : BlockRep w E (toRS (Mu.forget (some l) st)).H b ([] : List AVal).length (fun j => ([] : List AVal)[j]?) := by
        obtain ⟨ds, ty, fr, b1, b2, b3, b4⟩ := h4
        exact ⟨ds, ty, fr, b1, by simp, fun o ho => by simp at ho, fun j v hv => by simp at hv⟩
      rw [e1] at h4
      rw [e2]
      cases hh : st.B[t]? with
      | none => exact em
      | some x =>
        rw [hh] at h4
        simp only
        split
        · exact h4
        · exact em
    · have : valid (toRS (Mu.forget (some l) st)).G t = true := valid_none _ _
      rw [this] at ht; cases ht
    · have : (toRS (Mu.forget (some l) st)).G.getD t none = none := getD_map_none _ _
      rw [this] at ht; cases ht
theorem forget_H {lv : Option (List Nat)} : (forget lv st).H = st.H := by cases lv <;> rfl

theorem rounds_mono {c : Code} {Q Q' : Exit → Act → World → Prop} (h : ∀ x a w, Q x a w → Q' x a w) : ∀ (m : Nat) (a : Act) (w : World), Code.rounds P c Q m a w → Code.rounds P c Q' m a w
  | 0, _, _, hr => hr.elim
  | m + 1, a, w, hr => by
    rw [rounds_succ] at hr ⊢
    refine wp_mono hr (fun x a' w' hx => ?_)
    cases x <;> first | exact rounds_mono h m _ _ hx | exact h _ _ _ hx
theorem iLoop_sound {c : Code} {body : St → Kont → Ans} {lv : Option (List Nat)} (hb : ∀ st k out, body st k = some out → ∃ e st', CodeOK P c st e st' ∧ k e st' = some out) :
    ∀ (n : Nat) (st : St) (k : Kont) (out : Out), iLoop body (forget lv) n st k = some out → ∃ e st' m, (∀ w a E β, CI w a E β st → Code.rounds P c (Leaves' w E β st.H e st') m a w) ∧ k e st' = some out
  | 0, st, k, out, h => by simp [iLoop] at h
  | n + 1, st, k, out, h => by
    simp only [iLoop] at h
    obtain ⟨e, st1, h1, h2⟩ := hb _ _ _ h
    cases e with
    | normal =>
      obtain ⟨e2, st2, m, g1, g2⟩ := iLoop_sound hb n st1 k out h2
      refine ⟨e2, st2, m + 1, fun w a E β ci => ?_, g2⟩
      rw [rounds_succ]
      have := h1 w a E β ci.forget
      rw [forget_H] at this
      refine wp_mono this (fun x a' w' hl => then_normal (leaves_normal hl) ?_)
      obtain ⟨E', β', _, c1, ev, nw⟩ := hl
      exact rounds_mono (fun x a2 w2 hl2 => hl2.trans ev nw) m _ _ (g1 w' a' E' β' c1)
    | exit id => exact ⟨_, st1, 1, fun w a E β ci => by
        have := h1 w a E β ci.forget
        rw [forget_H] at this
        exact wp_mono this (fun x a' w' hl => then_other (leaves_other (by simp) hl) hl), h2⟩
    | ret => exact ⟨_, st1, 1, fun w a E β ci => by
        have := h1 w a E β ci.forget
        rw [forget_H] at this
        exact wp_mono this (fun x a' w' hl => then_other (leaves_other (by simp) hl) hl), h2⟩
    | panic p => exact ⟨_, st1, 1, fun w a E β ci => by
        have := h1 w a E β ci.forget
        rw [forget_H] at this
        exact wp_mono this (fun x a' w' hl => then_other (leaves_other (by simp) hl) hl), h2⟩

theorem iCode_sound (hr : RegionsOK P h fh) {F : Nat} : ∀ (c : Code) (hl : LOk P fh c) (st : St) (k : Kont) (out : Out), iCode P h fh F c st k = some out → ∃ e st', CodeOK P c st e st' ∧ k e st' = some out := by
  intro c
  induction c <;> intro hl st k out hi
  case skip => exact ⟨.normal, st, fun w a E β ci => wp_skip ⟨E, β, trivial, ci, .refl, fun _ _ h => .inl h⟩, hi⟩
  case region id ops draw => exact hr id ops draw st k out hi
  case seq x y ih1 ih2 =>
    simp only [iCode] at hi
    obtain ⟨e, st1, h1, h2⟩ := ih1 hl.1 _ _ _ hi
    cases e with
    | normal =>
      obtain ⟨e2, st2, g1, g2⟩ := ih2 hl.2 _ _ _ h2
      exact ⟨e2, st2, h1.seq g1, g2⟩
    | exit id => exact ⟨_, st1, h1.seq_out (by simp), h2⟩
    | ret => exact ⟨_, st1, h1.seq_out (by simp), h2⟩
    | panic p => exact ⟨_, st1, h1.seq_out (by simp), h2⟩
  case cond c x y ih1 ih2 =>
    simp only [iCode] at hi
    split at hi
    · rename_i q hq
      rw [Bool.cond_eq_ite] at hi
      have hev : ∀ w a E β, CI w a E β st → a.eval c = .bool q := fun w a E β ci => by
        have := aeval_rep ci.fs c (fun t _ => valid_none _ _)
        have e : aeval (toRS st).T c = .bool q := hq
        rw [e] at this
        exact repT_bool this
      split at hi
      · rename_i hqt
        obtain ⟨e, st1, h1, h2⟩ := ih1 hl.1 _ _ _ hi
        exact ⟨e, st1, fun w a E β ci => wp_cond (hev w a E β ci) (by rw [if_pos hqt]; exact h1 w a E β ci), h2⟩
      · rename_i hqf
        obtain ⟨e, st1, h1, h2⟩ := ih2 hl.2 _ _ _ hi
        exact ⟨e, st1, fun w a E β ci => wp_cond (hev w a E β ci) (by rw [if_neg hqf]; exact h1 w a E β ci), h2⟩
    · simp at hi
  case block id c ih =>
    simp only [iCode] at hi
    obtain ⟨e, st1, h1, h2⟩ := ih hl _ _ _ hi
    refine ⟨_, st1, h1.block, ?_⟩
    rw [← h2]
    cases e with
    | exit id' => simp only; split <;> rfl
    | _ => rfl
  case loop c ih =>
    simp only [iCode] at hi
    split at hi
    · rename_i sp hsp
      exact hl.2 sp hsp _ _ _ hi
    · obtain ⟨e, st1, m, h1, h2⟩ := iLoop_sound (ih hl.1) _ _ _ _ hi
      exact ⟨e, st1, fun w a E β ci => wp_loop_rounds m (h1 w a E β ci), h2⟩
  case exit id => exact ⟨.exit id, st, fun w a E β ci => wp_exit ⟨E, β, rfl, ci, .refl, fun _ _ h => .inl h⟩, hi⟩
  case ret => exact ⟨.ret, st, fun w a E β ci => wp_ret ⟨E, β, trivial, ci, .refl, fun _ _ h => .inl h⟩, hi⟩
  all_goals (simp [iCode] at hi)
end Go.Mu
