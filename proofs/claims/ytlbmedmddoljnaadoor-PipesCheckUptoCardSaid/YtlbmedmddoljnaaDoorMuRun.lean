/-
  Mu: what one operation of a region does in the model.
-/
import Derived.Test.YtlbmedmddoljnaaDoorMuRegion
set_option linter.unusedVariables false
set_option linter.unusedSimpArgs false
namespace Go.Mu
open Go
variable {P : Program} {h : Hd} {fh : FH} {ops : List Oper} {w w' : World} {a : Act} {E E' : Env} {H H' : Heap} {β β' : Nat → Option Nat} {T : List AVal} {B : Boxes} {G : Tags} {r : SR} {s s' : RS} {o : Oper}

def RepL (w : World) (E : Env) (H : Heap) (xs : List AVal) (cs : List Value) : Prop := cs.length = xs.length ∧ ∀ j, j < xs.length → Rep w E H (xs.getD j .undef) (cs.getD j undef)
theorem RepL.mono {xs : List AVal} {cs : List Value} (hs : Sees w E H w' E' H') (h : RepL w E H xs cs) : RepL w' E' H' xs cs := ⟨h.1, fun j hj => (h.2 j hj).mono hs⟩
theorem RepL.append {xs ys : List AVal} {cs ds : List Value} (h : RepL w E H xs cs) (g : RepL w E H ys ds) : RepL w E H (xs ++ ys) (cs ++ ds) := by
  refine ⟨by simp [h.1, g.1], fun j hj => ?_⟩
  simp only [List.getD_eq_getElem?_getD]
  rcases Nat.lt_or_ge j xs.length with k | k
  · rw [List.getElem?_append_left k, List.getElem?_append_left (by rw [h.1]; exact k)]
    have := h.2 j k
    simpa [List.getD_eq_getElem?_getD] using this
  · rw [List.getElem?_append_right k, List.getElem?_append_right (by rw [h.1]; exact k), h.1]
    have := g.2 (j - xs.length) (by simp at hj; omega)
    simpa [List.getD_eq_getElem?_getD] using this
inductive DefRep (w : World) (E : Env) (H : Heap) : List (FuncId × List AVal) → List Deferred → Prop
  | nil : DefRep w E H [] []
  | cons {g caps cs D ds} : RepL w E H caps cs → DefRep w E H D ds → DefRep w E H ((g, caps) :: D) ({ target := .fn (.func g) cs.toArray, args := #[] } :: ds)
theorem DefRep.mono {D : List (FuncId × List AVal)} {ds : List Deferred} (hs : Sees w E H w' E' H') (h : DefRep w E H D ds) : DefRep w' E' H' D ds := by
  induction h with
  | nil => exact .nil
  | cons h1 _ ih => exact .cons (h1.mono hs) ih

structure RI (w : World) (a : Act) (E : Env) (β : Nat → Option Nat) (s : RS) : Prop where
  fs : FS w a E s.H β s.T s.B s.G
  bad : ∀ t, valid s.G t = false → a.tmps.getD t undef = undef
  tag : TagInv s.T s.G
  defs : DefRep w E s.H s.D a.defers

theorem FS.put (fs : FS w a E H β T B G) {dst : Option Nat} (hd : freeDst G dst = true) {v : AVal} {c : Value} {g : Bool} {gc : Option (Nat × Bool)} (h : gc = none ∨ g = true → RepT w E H β v c) :
    FS w (a.put dst c) E H β (setDst T dst v) B (addTag G dst gc g) := by
  refine ⟨fs.sim, by rw [put_size, setDst_length]; exact fs.tsize, by rw [setDst_length]; exact fs.bsize, by rw [addTag_length, setDst_length]; exact fs.gsize, fun t ht => ?_, fs.box, fs.binj⟩
  by_cases e : dst = some t
  · subst e
    rw [setDst_same, put_same, fs.tsize]
    split
    · rename_i hlt
      apply h
      cases gc with
      | none => exact .inl rfl
      | some gc =>
        obtain ⟨d, q⟩ := gc
        refine .inr ?_
        unfold valid at ht
        rw [addTag_same, if_pos (by rw [fs.gsize]; exact hlt)] at ht
        exact ht
    · exact .undef _
  · rw [setDst_other e, put_other e]
    rw [valid_other e] at ht
    exact fs.vals t ht

/-- the invariants, when a slot is written -/
theorem RI.put {s : RS} (ri : RI w a E β s) {dst : Option Nat} {gc : Option (Nat × Bool)} (hd : freeDst s.G dst = true) (hg : guardOk s.T s.G dst gc = true) {v : AVal} {c : Value} {H' : Heap} {B' : Boxes} {E' : Env} {β' : Nat → Option Nat} {g : Bool}
    (fs : FS w' a E' H' β' s.T B' s.G) (hs : Sees w E s.H w' E' H') (hgv : ∀ d q, gc = some (d, q) → g = gval s.T s.G d q) (h : gc = none ∨ g = true → RepT w' E' H' β' v c) (hbad : gc ≠ none → g = false → c = undef) :
    RI w' (a.put dst c) E' β' { s with T := setDst s.T dst v, B := B', H := H', G := addTag s.G dst gc g } := by
  refine ⟨fs.put hd h, fun t ht => ?_, fun t d q g' ht => ?_, ?_⟩
  · by_cases e : dst = some t
    · subst e
      rw [put_same]
      split
      · rename_i hlt
        cases gc with
        | none =>
          have : valid s.G t = false := ht
          have hn := free_none hd
          unfold valid at this
          rw [hn] at this; cases this
        | some gc =>
          obtain ⟨d, q⟩ := gc
          refine hbad (by simp) ?_
          unfold valid at ht
          simp only at ht
          rw [addTag_same, if_pos (by rw [fs.gsize, ← fs.tsize]; exact hlt)] at ht
          exact ht
      · rfl
    · rw [put_other e]
      simp only at ht
      rw [valid_other e] at ht
      exact ri.bad t ht
  · simp only at ht ⊢
    by_cases e : dst = some t
    · subst e
      cases gc with
      | none =>
        have hn := free_none hd
        have : s.G.getD t none = some (d, q, g') := ht
        rw [hn] at this; cases this
      | some gc =>
        obtain ⟨d1, q1⟩ := gc
        rw [addTag_same] at ht
        split at ht
        · simp only [Option.some.injEq, Prod.mk.injEq] at ht
          obtain ⟨rfl, rfl, rfl⟩ := ht
          have hne : some t ≠ some d1 := by
            simp only [guardOk, Bool.and_eq_true, bne_iff_ne, ne_eq] at hg
            exact hg.2
          rw [gval_put hne]
          exact hgv _ _ rfl
        · cases ht
    · rw [addTag_other e] at ht
      rw [gval_put (free_apart hd ht)]
      exact ri.tag _ _ _ _ ht
  · rw [put_defers]; exact ri.defs.mono hs

/- is it wanted? -/
theorem wanted_iff {s : RS} (ri : RI w a E β s) (hg : guardGo ops s o) : Region.wanted o (yielded ops.toArray a.tmps) = gvOf s (guardDst ops o) := by
  obtain ⟨g1, g2, g3⟩ := hg
  unfold Region.wanted guardDst at *
  cases hgd : o.guard with
  | none => rfl
  | some jw =>
    obtain ⟨j, q⟩ := jw
    rw [hgd] at g1 g3
    simp only at g1 g3 ⊢
    cases hj : ops[j]? with
    | none => rw [hj] at g1; simp at g1
    | some oj =>
      rw [hj] at g1 g3
      simp only at g1 g3 ⊢
      cases hd : oj.dst with
      | none => rw [hd] at g1; simp at g1
      | some d =>
        rw [hd] at g3
        simp only [guardOk, Bool.and_eq_true, Bool.or_eq_true, Bool.not_eq_true'] at g3
        have hy : yielded ops.toArray a.tmps j = match a.tmps[d]? with | some (.bool b) => some b | _ => none := by
          unfold yielded
          have e : ((ops.toArray[j]?).bind (·.dst)) = some d := by simp [hj, hd]
          rw [e]; rfl
        rw [hy]
        simp only [gvOf, gval_eq]
        have hgt : ∀ c, a.tmps.getD d undef = c → c ≠ undef → a.tmps[d]? = some c := fun c hc hn => by
          rw [Array.getD_eq_getD_getElem?] at hc
          cases hh : a.tmps[d]? with
          | none => rw [hh] at hc; exact absurd hc.symm hn
          | some x => rw [hh] at hc; simpa using hc
        cases hv : valid s.G d with
        | false =>
          have hb := ri.bad d hv
          rw [Bool.and_false]
          have : (match a.tmps[d]? with | some (.bool b) => some b | _ => none) = (none : Option Bool) := by
            rw [Array.getD_eq_getD_getElem?] at hb
            cases hh : a.tmps[d]? with
            | none => rfl
            | some x => rw [hh] at hb; simp at hb; rw [hb]; rfl
          rw [this]; rfl
        | true =>
          rw [hv] at g3
          have hb : isBool (s.T.getD d .undef) = true := by
            rcases g3.1 with h | h
            · exact h
            · cases h
          have hr := ri.fs.vals d hv
          cases hT : s.T.getD d .undef <;> rw [hT] at hb <;> simp [isBool] at hb
          rename_i b
          rw [hT] at hr
          have := hgt _ (repT_bool hr) (by simp [undef])
          rw [this]
          simp [boolOf]
end Go.Mu
