/-
  Mu: slots, tags.
-/
import Derived.Test.YtlbmedmddoljnaaDoorMuCall
set_option linter.unusedVariables false
set_option linter.unusedSimpArgs false
namespace Go.Mu
open Go
variable {P : Program} {h : Hd} {fh : FH} {ops : List Oper} {w w' : World} {a : Act} {E E' : Env} {H H' : Heap} {β β' : Nat → Option Nat} {T : List AVal} {B : Boxes} {G : Tags} {r : SR} {s s' : RS} {o : Oper}

def TagInv (T : List AVal) (G : Tags) : Prop := ∀ t d w g, G.getD t none = some (d, w, g) → g = gval T G d w

theorem setDst_length (d : Option Nat) (v : AVal) : (setDst T d v).length = T.length := by cases d <;> simp [setDst]
theorem addTag_length (d : Option Nat) (c : Option (Nat × Bool)) (g : Bool) : (addTag G d c g).length = G.length := by
  cases d <;> cases c <;> simp [addTag]
theorem put_size (d : Option Nat) (c : Value) : (a.put d c).tmps.size = a.tmps.size := by cases d <;> simp [Act.put]
theorem put_defers (d : Option Nat) (c : Value) : (a.put d c).defers = a.defers := by cases d <;> rfl
theorem setDst_other {d : Option Nat} {t : Nat} {v : AVal} (h : d ≠ some t) : (setDst T d v).getD t .undef = T.getD t .undef := by
  cases d with
  | none => rfl
  | some d =>
    have : d ≠ t := fun e => h (by rw [e])
    simp [setDst, List.getD_eq_getElem?_getD, List.getElem?_set_ne this]
theorem put_other {d : Option Nat} {t : Nat} {c : Value} (h : d ≠ some t) : (a.put d c).tmps.getD t undef = a.tmps.getD t undef := by
  cases d with
  | none => rfl
  | some d =>
    have : d ≠ t := fun e => h (by rw [e])
    simp [Act.put, Array.getD_eq_getD_getElem?, Array.getElem?_setIfInBounds_ne this]
theorem addTag_other {d : Option Nat} {t : Nat} {c : Option (Nat × Bool)} {g : Bool} (h : d ≠ some t) : (addTag G d c g).getD t none = G.getD t none := by
  cases d with
  | none => rfl
  | some d =>
    have : d ≠ t := fun e => h (by rw [e])
    cases c with
    | none => rfl
    | some c => obtain ⟨e, q⟩ := c; simp [addTag, List.getD_eq_getElem?_getD, List.getElem?_set_ne this]
theorem valid_other {d : Option Nat} {t : Nat} {c : Option (Nat × Bool)} {g : Bool} (h : d ≠ some t) : valid (addTag G d c g) t = valid G t := by
  unfold valid; rw [addTag_other h]
theorem setDst_same {d : Nat} {v : AVal} : (setDst T (some d) v).getD d .undef = if d < T.length then v else .undef := by
  simp only [setDst, List.getD_eq_getElem?_getD]
  split
  · rename_i h; rw [List.getElem?_set_self h]; rfl
  · rename_i h; rw [List.getElem?_eq_none (by simpa using h)]; rfl
theorem put_same {d : Nat} {c : Value} : (a.put (some d) c).tmps.getD d undef = if d < a.tmps.size then c else undef := by
  simp only [Act.put, Array.getD_eq_getD_getElem?]
  split
  · rename_i h; simp [h]
  · rename_i h; rw [Array.getElem?_eq_none (by simpa using h)]; rfl
theorem addTag_same {d : Nat} {e : Nat} {q : Bool} {g : Bool} : (addTag G (some d) (some (e, q)) g).getD d none = if d < G.length then some (e, q, g) else none := by
  simp only [addTag, List.getD_eq_getElem?_getD]
  split
  · rename_i h; rw [List.getElem?_set_self h]; rfl
  · rename_i h; rw [List.getElem?_eq_none (by simpa using h)]; rfl

theorem free_none {d : Nat} (h : freeDst G (some d) = true) : G.getD d none = none := by
  simp only [freeDst, Bool.and_eq_true, Option.isNone_iff_eq_none] at h; exact h.2
theorem free_apart {dst : Option Nat} {t d : Nat} {q g : Bool} (h : freeDst G dst = true) (ht : G.getD t none = some (d, q, g)) : dst ≠ some d := by
  intro e; subst e
  simp only [freeDst, Bool.and_eq_true, List.all_eq_true] at h
  have hm : some (d, q, g) ∈ G := by
    rw [List.getD_eq_getElem?_getD] at ht
    cases hh : G[t]? with
    | none => rw [hh] at ht; cases ht
    | some x => rw [hh] at ht; simp at ht; subst ht; exact List.mem_of_getElem? hh
  have := h.1 _ hm
  simp at this

theorem gval_put {dst : Option Nat} {v : AVal} {gc : Option (Nat × Bool)} {g : Bool} {d : Nat} {q : Bool} (h : dst ≠ some d) : gval (setDst T dst v) (addTag G dst gc g) d q = gval T G d q := by
  rw [gval_eq, gval_eq, setDst_other h, valid_other h]

/- tags -/
theorem tag_valid {T : List AVal} {G : Tags} (ht : ∀ t d w g, G.getD t none = some (d, w, g) → g = gval T G d w) : ∀ (f : Nat) (c : Option (Nat × Bool)) (t : Nat), tagOk G f c t = true → (∀ d q, c = some (d, q) → gval T G d q = true) → valid G t = true
  | 0, c, t, h, _ => by simp [tagOk] at h
  | f + 1, c, t, h, hc => by
    unfold tagOk at h
    cases hg : G.getD t none with
    | none => unfold valid; rw [hg]
    | some x =>
      obtain ⟨d, q, g⟩ := x
      rw [hg] at h
      cases c with
      | none => simp at h
      | some c =>
        obtain ⟨d', q'⟩ := c
        simp only [Bool.or_eq_true, Bool.and_eq_true, beq_iff_eq] at h
        have hgv := hc d' q' rfl
        rcases h with ⟨rfl, rfl⟩ | h
        · unfold valid; rw [hg]
          simp only
          rw [ht _ _ _ _ hg]; exact hgv
        · cases hd' : G.getD d' none with
          | none => rw [hd'] at h; simp at h
          | some y =>
            obtain ⟨d2, q2, g2⟩ := y
            rw [hd'] at h
            refine tag_valid ht f (some (d2, q2)) t h (fun d q e => ?_)
            simp only [Option.some.injEq, Prod.mk.injEq] at e
            obtain ⟨rfl, rfl⟩ := e
            have hv : valid G d' = true := by
              rw [gval_eq] at hgv
              exact (Bool.and_eq_true_iff.1 hgv).2
            unfold valid at hv
            rw [hd'] at hv
            simp only at hv
            rw [← ht _ _ _ _ hd']; exact hv
theorem opTags_ok (ht : ∀ t d w g, G.getD t none = some (d, w, g) → g = gval T G d w) {c : Option (Nat × Bool)} (h : opTags G c o.op = true) (hc : ∀ d q, c = some (d, q) → gval T G d q = true) : okOp T G o := by
  have all : ∀ l : List Operand, (tmpsOf l).all (tagOk G 8 c) = true → ∀ t, t ∈ tmpsOf l → valid G t = true := fun l hl t hm => tag_valid ht 8 c t (List.all_eq_true.1 hl t hm) hc
  have other : (tmpsOf o.op.operands.toList).all (tagOk G 8 c) = true → okOp T G o := fun hl => by
    have hok : okTmps G o := all _ hl
    unfold okOp
    split
    · rename_i p x y he
      have mem : ∀ t z, z = Operand.tmp t → z ∈ o.op.operands.toList → valid G t = true := fun t z e hm => hok t (by
        subst e
        exact List.mem_filterMap.2 ⟨_, hm, rfl⟩)
      rw [he] at mem
      simp only [Op.operands] at mem
      exact ⟨fun t e => mem t _ e (by simp), fun _ t e => mem t _ e (by simp), fun _ t e => mem t _ e (by simp)⟩
    · exact hok
  unfold opTags at h
  split at h
  · rename_i q x y he
    simp only [Bool.and_eq_true, List.all_eq_true, Bool.or_eq_true] at h
    obtain ⟨⟨h1, h2⟩, h3⟩ := h
    unfold okOp
    rw [he]
    simp only
    have hq : valid G q = true := tag_valid ht 8 c q h1 hc
    refine ⟨fun t e => by cases e; exact hq, fun hT t e => ?_, fun hT t e => ?_⟩
    · subst e
      rcases h2 t (by simp [tmpsOf]) with g | g
      · exact tag_valid ht 8 c t g hc
      · split at g
        · rename_i d1 w1 g1 hh
          simp only [Bool.and_eq_true, beq_iff_eq] at g
          obtain ⟨rfl, rfl⟩ := g
          unfold valid; rw [hh]
          simp only
          rw [ht _ _ _ _ hh]
          rw [gval_eq]
          have hT' : T.getD d1 .undef = .bool true := hT
          rw [hT', hq]; rfl
        · simp at g
    · subst e
      rcases h3 t (by simp [tmpsOf]) with g | g
      · exact tag_valid ht 8 c t g hc
      · split at g
        · rename_i d1 w1 g1 hh
          simp only [Bool.and_eq_true, beq_iff_eq, Bool.not_eq_true'] at g
          obtain ⟨rfl, rfl⟩ := g
          unfold valid; rw [hh]
          simp only
          rw [ht _ _ _ _ hh]
          rw [gval_eq]
          have hT' : T.getD d1 .undef = .bool false := hT
          rw [hT', hq]; rfl
        · simp at g
  · exact other h


theorem TagInv.put (ht : TagInv T G) {dst : Option Nat} {gc : Option (Nat × Bool)} (hd : freeDst G dst = true) (hg : guardOk T G dst gc = true) {v : AVal} {g : Bool} (hgv : ∀ d q, gc = some (d, q) → g = gval T G d q) :
    TagInv (setDst T dst v) (addTag G dst gc g) := by
  intro t d q g' hh
  by_cases e : dst = some t
  · subst e
    cases gc with
    | none =>
      have hn := free_none hd
      have : G.getD t none = some (d, q, g') := hh
      rw [hn] at this; cases this
    | some gc =>
      obtain ⟨d1, q1⟩ := gc
      rw [addTag_same] at hh
      split at hh
      · simp only [Option.some.injEq, Prod.mk.injEq] at hh
        obtain ⟨rfl, rfl, rfl⟩ := hh
        have hne : some t ≠ some d1 := by
          simp only [guardOk, Bool.and_eq_true, bne_iff_ne, ne_eq] at hg
          exact hg.2
        rw [gval_put hne]
        exact hgv _ _ rfl
      · cases hh
  · rw [addTag_other e] at hh
    rw [gval_put (free_apart hd hh)]
    exact ht _ _ _ _ hh
theorem TagInv.none (T : List AVal) : TagInv T (T.map fun _ => none) := by
  intro t d w g hh
  rw [List.getD_eq_getElem?_getD, List.getElem?_map] at hh
  cases hx : T[t]? <;> rw [hx] at hh <;> simp at hh
end Go.Mu
