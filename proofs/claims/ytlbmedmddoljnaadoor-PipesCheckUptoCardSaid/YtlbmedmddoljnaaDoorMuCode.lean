/-
  Mu: regions in the order of the text; code.
-/
import Derived.Test.YtlbmedmddoljnaaDoorMuRun2
import Derived.LoopN
import Derived.Tactics
set_option linter.unusedVariables false
set_option linter.unusedSimpArgs false
namespace Go.Mu
open Go
variable {P : Program} {h : Hd} {fh : FH} {ops : List Oper} {w w' : World} {a : Act} {E E' : Env} {H H' : Heap} {β β' : Nat → Option Nat} {T : List AVal} {B : Boxes} {G : Tags} {s s' : RS} {o : Oper} {st st' : St}

def toRS (st : St) : RS := { T := st.T, B := st.B, H := st.H, D := st.D, G := st.T.map fun _ => none }
def CI (w : World) (a : Act) (E : Env) (β : Nat → Option Nat) (st : St) : Prop := RI w a E β (toRS st)

def ExitRep (w : World) (E : Env) (H : Heap) : AExit → Exit → Prop
  | .normal, .normal => True
  | .exit id, .exit id' => id = id'
  | .ret, .ret => True
  | .panic p, .panic chain => ∃ c, chain = [{ v := c, recovered := false }] ∧ Rep w E H p c
  | _, _ => False

def Leaves' (w : World) (E : Env) (β : Nat → Option Nat) (H : Heap) (e : AExit) (st' : St) (x : Exit) (a' : Act) (w' : World) : Prop :=
  ∃ E' β', ExitRep w' E' st'.H e x ∧ CI w' a' E' β' st' ∧ Evo (Xβ β) w E H w' E' st'.H ∧ ∀ t b, β' t = some b → β t = some b ∨ w.heap.size ≤ b

def CodeOK (P : Program) (c : Code) (st : St) (e : AExit) (st' : St) : Prop :=
  ∀ w a E β, CI w a E β st → c.wp P (Leaves' w E β st.H e st') a w

theorem Leaves'.trans {w1 : World} {E1 : Env} {β1 : Nat → Option Nat} {H1 : Heap} {e : AExit} {x : Exit} {a2 : Act} {w2 : World} (ev : Evo (Xβ β) w E H w1 E1 H1) (nw : ∀ t b, β1 t = some b → β t = some b ∨ w.heap.size ≤ b) (h : Leaves' w1 E1 β1 H1 e st' x a2 w2) : Leaves' w E β H e st' x a2 w2 := by
  obtain ⟨E2, β2, h1, h2, h3, h4⟩ := h
  refine ⟨E2, β2, h1, h2, ev.trans h3 (fun b hb => ?_), fun t b hb => ?_⟩
  · obtain ⟨t, ht⟩ := hb
    exact (nw t b ht).imp (fun g => ⟨t, g⟩) id
  · rcases h4 t b hb with g | g
    · exact nw t b g
    · exact .inr (Nat.le_trans ev.size g)

theorem Next.trans {w1 w2 : World} {a1 a2 : Act} {E1 E2 : Env} {β1 β2 : Nat → Option Nat} {s1 s2 : RS} (h1 : Next w E β H w1 a1 E1 β1 s1) (h2 : Next w1 E1 β1 s1.H w2 a2 E2 β2 s2) : Next w E β H w2 a2 E2 β2 s2 := by
  refine ⟨h2.ri, h1.evo.trans h2.evo (fun b hb => ?_), fun t b hb => ?_⟩
  · obtain ⟨t, ht⟩ := hb
    exact (h1.new t b ht).imp (fun g => ⟨t, g⟩) id
  · rcases h2.new t b hb with g | g
    · exact h1.new t b g
    · exact .inr (Nat.le_trans h1.evo.size g)

/- what is left of a frame -/
theorem getD_map_none (T : List AVal) (t : Nat) : ((T.map fun _ => none : Tags)).getD t none = none := by
  simp only [List.getD_eq_getElem?_getD, List.getElem?_map]
  cases T[t]? <;> rfl
theorem valid_none (T : List AVal) (t : Nat) : valid (T.map fun _ => none) t = true := by
  unfold valid; rw [getD_map_none]
theorem untag_get (s : RS) (hl : s.G.length = s.T.length) (t : Nat) : (untag s).T.getD t .undef = if (s.G.getD t none).isNone then s.T.getD t .undef else .undef := by
  simp only [untag, List.getD_eq_getElem?_getD, List.getElem?_map]
  rcases Nat.lt_or_ge t s.T.length with g | g
  · have hz : (s.T.zip s.G)[t]? = some (s.T[t], s.G[t]'(by omega)) := by
      rw [List.getElem?_eq_getElem (by simp; omega), List.getElem_zip]
    rw [hz, List.getElem?_eq_getElem g, List.getElem?_eq_getElem (show t < s.G.length by omega)]
    simp only [Option.map_some, Option.getD_some]
    cases s.G[t]'(by omega) <;> rfl
  · rw [List.getElem?_eq_none (by simp; omega), List.getElem?_eq_none g]
    split <;> rfl
theorem RI.untag (ri : RI w a E β s) : CI w a E β (untag s) := by
  have hl := ri.fs.gsize
  have hlen : (Mu.untag s).T.length = s.T.length := by simp [Mu.untag]; omega
  refine ⟨⟨ri.fs.sim, by rw [ri.fs.tsize]; exact hlen.symm, by show s.B.length = (Mu.untag s).T.length; rw [hlen]; exact ri.fs.bsize, by simp [toRS], fun t _ => ?_, ri.fs.box, ri.fs.binj⟩,
    fun t ht => ?_, fun t d q g ht => ?_, ri.defs⟩
  · show RepT w E s.H β ((Mu.untag s).T.getD t .undef) _
    rw [untag_get s hl]
    split
    · rename_i hn
      refine ri.fs.vals t ?_
      unfold valid
      rw [Option.isNone_iff_eq_none.1 hn]
    · exact .undef _
  · have : valid (toRS (Mu.untag s)).G t = true := valid_none _ _
    rw [this] at ht; cases ht
  · have : (toRS (Mu.untag s)).G.getD t none = none := getD_map_none _ _
    rw [this] at ht; cases ht

/- what a region leaves alone -/
theorem dropDsts_get : ∀ (l : List Oper) (T : List AVal) (t : Nat), ((∃ o ∈ l, o.dst = some t) → (dropDsts l T).getD t .undef = .undef) ∧ ((∀ o ∈ l, o.dst ≠ some t) → (dropDsts l T).getD t .undef = T.getD t .undef) ∧ (dropDsts l T).length = T.length
  | [], T, t => ⟨fun ⟨o, h, _⟩ => by simp at h, fun _ => rfl, rfl⟩
  | o :: l, T, t => by
    have ih := dropDsts_get l (setDst T o.dst .undef) t
    have e : dropDsts (o :: l) T = dropDsts l (setDst T o.dst .undef) := rfl
    rw [e]
    refine ⟨fun ⟨p, hp, hd⟩ => ?_, fun hn => ?_, by rw [ih.2.2, setDst_length]⟩
    · by_cases hex : ∃ o ∈ l, o.dst = some t
      · exact ih.1 hex
      · rw [ih.2.1 (fun q hq hqd => hex ⟨q, hq, hqd⟩)]
        rcases List.mem_cons.1 hp with rfl | hp
        · rw [hd, setDst_same]; split <;> rfl
        · exact absurd ⟨p, hp, hd⟩ hex
    · rw [ih.2.1 (fun p hp => hn p (by simp [hp])), setDst_other (hn o (by simp))]
theorem OpRun.keeps {i : Nat} {recs : List Rec} (h : OpRun P fh ops i o s recs s') {t : Nat} (ht : o.dst ≠ some t) : s'.T.getD t .undef = s.T.getD t .undef ∧ s'.G.getD t none = s.G.getD t none ∧ s'.T.length = s.T.length := by
  cases h <;> exact ⟨setDst_other ht, by first | exact addTag_other ht | rfl, setDst_length _ _⟩
theorem OpPan.keeps {p : AVal} (h : OpPan P fh ops o s p s') : s'.T = s.T ∧ s'.G = s.G := by
  cases h <;> exact ⟨rfl, rfl⟩
theorem drop_mem {l : List Oper} {i : Nat} (h : ops.drop i = o :: l) : ops[i]? = some o ∧ ops.drop (i + 1) = l := by
  have h1 : (ops.drop i)[0]? = some o := by rw [h]; rfl
  rw [List.getElem?_drop] at h1
  refine ⟨h1, ?_⟩
  rw [← List.drop_drop, h]; rfl

/-- a panic out of a region -/
theorem RI.panicked {st : St} (ri : RI w a E β s) (hT : ∀ t, (∀ o ∈ ops, o.dst ≠ some t) → s.T.getD t .undef = st.T.getD t .undef ∧ s.G.getD t none = none) (hl : s.T.length = st.T.length) (hB : s.B.length = st.B.length) :
    CI w a E β { T := dropDsts ops st.T, B := st.B.map fun _ => [], H := s.H, D := s.D } := by
  have hlen : (dropDsts ops st.T).length = st.T.length := (dropDsts_get ops st.T 0).2.2
  have hsl : a.tmps.size = (dropDsts ops st.T).length := by rw [ri.fs.tsize, hl, hlen]
  refine ⟨⟨ri.fs.sim, hsl, ?_, by simp [toRS], fun t _ => ?_, fun t b hb => ?_, ri.fs.binj⟩, fun t ht => ?_, fun t d q g ht => ?_, ri.defs⟩
  · show (st.B.map fun _ => ([] : List AVal)).length = (dropDsts ops st.T).length
    rw [List.length_map, ← hB, ri.fs.bsize, hl, hlen]
  · show RepT w E s.H β ((dropDsts ops st.T).getD t .undef) _
    by_cases hex : ∃ o ∈ ops, o.dst = some t
    · rw [(dropDsts_get ops st.T t).1 hex]; exact .undef _
    · have hn : ∀ o ∈ ops, o.dst ≠ some t := fun o ho hd => hex ⟨o, ho, hd⟩
      obtain ⟨h1, h2⟩ := hT t hn
      rw [(dropDsts_get ops st.T t).2.1 hn, ← h1]
      exact ri.fs.vals t (by unfold valid; rw [h2])
  · obtain ⟨h1, h2, h3, ds, ty, fr, b1, b2, b3, b4⟩ := ri.fs.box t b hb
    have e : ((toRS { T := dropDsts ops st.T, B := st.B.map fun _ => [], H := s.H, D := s.D }).B.getD t []) = [] := by
      show ((st.B.map fun _ => ([] : List AVal)).getD t []) = []
      simp only [List.getD_eq_getElem?_getD, List.getElem?_map]
      cases st.B[t]? <;> rfl
    refine ⟨h1, h2, h3, ?_⟩
    rw [e]
    exact ⟨ds, ty, fr, b1, by simp, fun o ho => by simp at ho, fun j v hv => by simp at hv⟩
  · have : valid (toRS { T := dropDsts ops st.T, B := st.B.map fun _ => [], H := s.H, D := s.D }).G t = true := valid_none _ _
    rw [this] at ht; cases ht
  · have : (toRS { T := dropDsts ops st.T, B := st.B.map fun _ => [], H := s.H, D := s.D }).G.getD t none = none := getD_map_none _ _
    rw [this] at ht; cases ht

/-- the operations, in the order of the text -/
theorem ops_sound {Q : Exit → Act → World → Prop} : ∀ (l : List Oper) (i : Nat) (s : RS) (recs : List Rec) (s' : RS), OpsRun P fh ops l i s recs s' → ops.drop i = l → ∀ {w a E β}, RI w a E β s →
    (∀ w' a' E' β', Next w E β s.H w' a' E' β' s' → Q .normal a' w') → wpOps P ops.toArray Q (List.range' i l.length) a w
  | [], i, s, _, _, .nil _ _, _, w, a, E, β, ri, hQ => by
    simp only [List.length_nil, List.range'_zero, wpOps]
    exact hQ w a E β ⟨ri, .refl, fun _ _ h => .inl h⟩
  | o :: l, i, s, _, s', .cons (s1 := s1) h1 h2, hd, w, a, E, β, ri, hQ => by
    obtain ⟨g1, g2⟩ := drop_mem hd
    rw [List.length_cons, List.range'_succ, wpOps_cons]
    refine op_sound h1 g1 ri (fun w1 a1 E1 β1 n1 => ?_)
    exact ops_sound l (i + 1) s1 _ s' h2 g2 n1.ri (fun w' a' E' β' n2 => hQ _ _ _ _ (n1.trans n2))
theorem ops_panics {Q : Exit → Act → World → Prop} : ∀ (l : List Oper) (i : Nat) (s : RS) (j : Nat) (recs : List Rec) (p : AVal) (s' : RS), OpsPan P fh ops l i s j recs p s' → ops.drop i = l → ∀ {w a E β}, RI w a E β s →
    (∀ w' a' E' β' c, RI w' a' E' β' s' → Evo (Xβ β) w E s.H w' E' s'.H → (∀ t b, β' t = some b → β t = some b ∨ w.heap.size ≤ b) → Rep w' E' s'.H p c → Q (.panic [{ v := c, recovered := false }]) a' w') → wpOps P ops.toArray Q (List.range' i l.length) a w
  | [], i, s, _, _, _, _, h, _, w, a, E, β, ri, hQ => by cases h
  | o :: l, i, s, _, _, p, s', .here h1, hd, w, a, E, β, ri, hQ => by
    obtain ⟨g1, g2⟩ := drop_mem hd
    rw [List.length_cons, List.range'_succ, wpOps_cons]
    exact pan_sound h1 g1 ri (fun w' E' c f => hQ w' a E' β c f.ri f.evo (fun _ _ h => .inl h) f.rep)
  | o :: l, i, s, j, _, p, s', .later (s1 := s1) h1 h2, hd, w, a, E, β, ri, hQ => by
    obtain ⟨g1, g2⟩ := drop_mem hd
    rw [List.length_cons, List.range'_succ, wpOps_cons]
    refine op_sound h1 g1 ri (fun w1 a1 E1 β1 n1 => ?_)
    refine ops_panics l (i + 1) s1 _ _ p s' h2 g2 n1.ri (fun w' a' E' β' c r1 r2 r3 r4 => ?_)
    refine hQ w' a' E' β' c r1 (n1.evo.trans r2 (fun b hb => ?_)) (fun t b hb => ?_) r4
    · obtain ⟨t, ht⟩ := hb
      exact (n1.new t b ht).imp (fun g => ⟨t, g⟩) id
    · rcases r3 t b hb with g | g
      · exact n1.new t b g
      · exact .inr (Nat.le_trans n1.evo.size g)
theorem OpsPan.keeps : ∀ {l : List Oper} {i : Nat} {s : RS} {j : Nat} {recs : List Rec} {p : AVal} {s' : RS}, OpsPan P fh ops l i s j recs p s' → ∀ t, (∀ o ∈ l, o.dst ≠ some t) → s'.T.getD t .undef = s.T.getD t .undef ∧ s'.G.getD t none = s.G.getD t none
  | _, _, _, _, _, _, _, .here h, t, ht => by obtain ⟨e1, e2⟩ := h.keeps; rw [e1, e2]; exact ⟨rfl, rfl⟩
  | _, _, _, _, _, _, _, .later h1 h2, t, ht => by
    obtain ⟨e1, e2, _⟩ := h1.keeps (ht _ (by simp))
    obtain ⟨g1, g2⟩ := h2.keeps t (fun o ho => ht o (by simp [ho]))
    exact ⟨g1.trans e1, g2.trans e2⟩
theorem OpsPan.len : ∀ {l : List Oper} {i : Nat} {s : RS} {j : Nat} {recs : List Rec} {p : AVal} {s' : RS}, OpsPan P fh ops l i s j recs p s' → s'.T.length = s.T.length
  | _, _, _, _, _, _, _, .here h => by obtain ⟨e1, e2⟩ := h.keeps; rw [e1]
  | _, _, _, _, _, _, _, .later h1 h2 => by
    refine h2.len.trans ?_
    cases h1 <;> exact setDst_length _ _

theorem region_sound (hh : HOK P h) {id : Nat} {ops : Array Oper} {k : Kont} {out : Out} (hi : iRegion P h fh ops false st k = some out) : ∃ e st', CodeOK P (.region id ops false) st e st' ∧ k e st' = some out := by
  simp only [iRegion, withUntag_eq, iOps_eq] at hi
  have hrange : List.range ops.size = List.range' 0 ops.toList.length := by rw [List.range_eq_range']; simp
  rcases iOps_run hh _ _ _ _ _ _ (TagInv.none _) hi with ⟨recs, s', h1, h2⟩ | ⟨j, recs, p, s', h1, h2⟩
  · refine ⟨.normal, _, fun w a E β ci => ?_, h2⟩
    refine wp_region ?_
    rw [hrange]
    have := ops_sound (Q := Leaves' w E β st.H .normal (untag s')) (ops := ops.toList) _ 0 _ _ _ h1 rfl ci (fun w' a' E' β' n => ⟨E', β', trivial, n.ri.untag, n.evo, n.new⟩)
    exact this
  · refine ⟨.panic p, _, fun w a E β ci => ?_, h2⟩
    refine wp_region ?_
    rw [hrange]
    have := ops_panics (Q := Leaves' w E β st.H (.panic p) { T := dropDsts ops.toList st.T, B := st.B.map fun _ => [], H := s'.H, D := s'.D }) (ops := ops.toList) _ 0 _ _ _ _ _ h1 rfl ci (fun w' a' E' β' c r1 r2 r3 r4 =>
      ⟨E', β', ⟨c, rfl, r4⟩, r1.panicked (fun t ht => ⟨(h1.keeps t ht).1, (h1.keeps t ht).2.trans (getD_map_none _ _)⟩) h1.len (by
        have e1 := r1.fs.bsize
        have e2 := ci.fs.bsize
        rw [e1, h1.len]; exact e2.symm), r2, r3⟩)
    exact this
end Go.Mu
