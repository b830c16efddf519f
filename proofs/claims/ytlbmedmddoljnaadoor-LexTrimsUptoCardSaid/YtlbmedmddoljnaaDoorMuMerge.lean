/-
  Mu: writes in any order.
-/
import Derived.Test.YtlbmedmddoljnaaDoorMuWr
set_option linter.unusedVariables false
set_option linter.unusedSimpArgs false
namespace Go.Mu
open Go
variable {P : Program} {fh : FH} {s s' s2 : RS} {W : Wr}

inductive Comp where
  | T (t : Nat)
  | G (t : Nat)
  | B (x : Nat)
  | H
  | D

def wrC (c : Comp) (W : Wr) : Bool := match c with
  | .T t => W.dst == some t
  | .G t => W.dst == some t && W.c.isSome
  | .B x => match W.wb with | some (d, _) => d == x | none => false
  | .H => W.wh.isSome
  | .D => false
def REq (c : Comp) (s s' : RS) : Prop := match c with
  | .T t => s.T.length = s'.T.length ∧ s.T.getD t .undef = s'.T.getD t .undef
  | .G t => s.G.length = s'.G.length ∧ s.G.getD t none = s'.G.getD t none
  | .B x => s.B.length = s'.B.length ∧ s.B.getD x [] = s'.B.getD x []
  | .H => s.H = s'.H
  | .D => s.D = s'.D
theorem REq.refl {c : Comp} : REq c s s := by cases c <;> simp [REq]
theorem REq.symm {c : Comp} (h : REq c s s') : REq c s' s := by
  cases c <;> simp only [REq] at h ⊢ <;> first | exact ⟨h.1.symm, h.2.symm⟩ | exact h.symm
theorem REq.trans {c : Comp} (h : REq c s s') (g : REq c s' s2) : REq c s s2 := by
  cases c <;> simp only [REq] at h g ⊢ <;> first | exact ⟨h.1.trans g.1, h.2.trans g.2⟩ | exact h.trans g
theorem bset_other {B : Boxes} {d x : Nat} {c : List AVal} (h : d ≠ x) : (bset B d c).getD x [] = B.getD x [] := by
  simp [bset, List.getD_eq_getElem?_getD, List.getElem?_set_ne h]
theorem bset_same {B : Boxes} {d : Nat} {c : List AVal} : (bset B d c).getD d [] = if d < B.length then c else [] := by
  simp only [bset, List.getD_eq_getElem?_getD]
  split
  · rename_i h; rw [List.getElem?_set_self h]; rfl
  · rename_i h; rw [List.getElem?_eq_none (by simpa using h)]; rfl
theorem app_skip {c : Comp} (h : wrC c W = false) : REq c (W.app s) s := by
  cases c with
  | T t =>
    simp only [wrC, beq_eq_false_iff_ne, ne_eq] at h
    exact ⟨setDst_length _ _, setDst_other h⟩
  | G t =>
    simp only [wrC, Bool.and_eq_false_iff, beq_eq_false_iff_ne, ne_eq] at h
    refine ⟨addTag_length _ _ _, ?_⟩
    rcases h with h | h
    · exact addTag_other h
    · cases hc : W.c with
      | none => simp only [Wr.app, hc]; cases W.dst <;> rfl
      | some x => rw [hc] at h; simp at h
  | B x =>
    simp only [wrC] at h
    simp only [REq, Wr.app]
    cases hb : W.wb with
    | none => exact ⟨rfl, rfl⟩
    | some y =>
      obtain ⟨d, cc⟩ := y
      rw [hb] at h
      simp only [beq_eq_false_iff_ne, ne_eq] at h
      exact ⟨by simp [bset], bset_other h⟩
  | H =>
    simp only [wrC] at h
    simp only [REq, Wr.app]
    cases hb : W.wh with
    | none => rfl
    | some y => rw [hb] at h; simp at h
  | D => rfl
theorem app_cong {c : Comp} (h : REq c s s') : REq c (W.app s) (W.app s') := by
  cases c with
  | T t =>
    simp only [REq, Wr.app] at h ⊢
    refine ⟨by rw [setDst_length, setDst_length]; exact h.1, ?_⟩
    by_cases e : W.dst = some t
    · rw [e, setDst_same, setDst_same, h.1]
    · rw [setDst_other e, setDst_other e]; exact h.2
  | G t =>
    simp only [REq, Wr.app] at h ⊢
    refine ⟨by rw [addTag_length, addTag_length]; exact h.1, ?_⟩
    by_cases e : W.dst = some t
    · rw [e]
      cases hc : W.c with
      | none => exact h.2
      | some x => obtain ⟨d, q⟩ := x; rw [addTag_same, addTag_same, h.1]
    · rw [addTag_other e, addTag_other e]; exact h.2
  | B x =>
    simp only [REq, Wr.app] at h ⊢
    cases hb : W.wb with
    | none => exact h
    | some y =>
      obtain ⟨d, cc⟩ := y
      simp only
      refine ⟨by simp [bset]; exact h.1, ?_⟩
      by_cases e : d = x
      · subst e; rw [bset_same, bset_same, h.1]
      · rw [bset_other e, bset_other e]; exact h.2
  | H =>
    simp only [REq, Wr.app] at h ⊢
    cases W.wh with
    | none => exact h
    | some y => rfl
  | D => exact h
/-- what is written is the same wherever -/
theorem app_same {c : Comp} (h : wrC c W = true) (hl : s.T.length = s'.T.length ∧ s.G.length = s'.G.length ∧ s.B.length = s'.B.length) : REq c (W.app s) (W.app s') := by
  cases c with
  | T t =>
    simp only [wrC, beq_iff_eq] at h
    refine ⟨by simp only [Wr.app]; rw [setDst_length, setDst_length]; exact hl.1, ?_⟩
    simp only [Wr.app]; rw [h, setDst_same, setDst_same, hl.1]
  | G t =>
    simp only [wrC, Bool.and_eq_true, beq_iff_eq] at h
    refine ⟨by simp only [Wr.app]; rw [addTag_length, addTag_length]; exact hl.2.1, ?_⟩
    simp only [Wr.app]
    cases hc : W.c with
    | none => rw [hc] at h; simp at h
    | some x => obtain ⟨d, q⟩ := x; rw [h.1, addTag_same, addTag_same, hl.2.1]
  | B x =>
    simp only [wrC] at h
    simp only [REq, Wr.app]
    cases hb : W.wb with
    | none => rw [hb] at h; simp at h
    | some y =>
      obtain ⟨d, cc⟩ := y
      rw [hb] at h
      simp only [beq_iff_eq] at h
      subst h
      exact ⟨by simp [bset]; exact hl.2.2, by simp only; rw [bset_same, bset_same, hl.2.2]⟩
  | H =>
    simp only [wrC] at h
    simp only [REq, Wr.app]
    cases hb : W.wh with
    | none => rw [hb] at h; simp at h
    | some y => rfl
  | D => simp [wrC] at h
theorem eq_of_req (h : ∀ c, REq c s s') : s = s' := by
  have hT := fun t => h (.T t)
  have hG := fun t => h (.G t)
  have hB := fun t => h (.B t)
  have hH := h .H
  have hD := h .D
  obtain ⟨T, B, H, D, G⟩ := s
  obtain ⟨T', B', H', D', G'⟩ := s'
  simp only [REq] at hT hG hB hH hD
  subst hH hD
  have ext : ∀ {α : Type} {l l' : List α} (d : α), l.length = l'.length → (∀ t, l.getD t d = l'.getD t d) → l = l' := by
    intro α l l' d hl hg
    apply List.ext_getElem hl
    intro i h1 h2
    have := hg i
    rwa [List.getD_eq_getElem?_getD, List.getD_eq_getElem?_getD, List.getElem?_eq_getElem h1, List.getElem?_eq_getElem h2] at this
  rw [ext .undef (hT 0).1 (fun t => (hT t).2), ext none (hG 0).1 (fun t => (hG t).2), ext [] (hB 0).1 (fun t => (hB t).2)]

variable {Wf : Nat → Wr}
def foldW (Wf : Nat → Wr) (l : List Nat) (s : RS) : RS := l.foldl (fun s i => (Wf i).app s) s
theorem foldW_len : ∀ (l : List Nat) (s : RS), (foldW Wf l s).T.length = s.T.length ∧ (foldW Wf l s).G.length = s.G.length ∧ (foldW Wf l s).B.length = s.B.length
  | [], s => ⟨rfl, rfl, rfl⟩
  | i :: l, s => by
    have := foldW_len l ((Wf i).app s)
    have e : foldW Wf (i :: l) s = foldW Wf l ((Wf i).app s) := rfl
    rw [e, this.1, this.2.1, this.2.2]
    refine ⟨setDst_length _ _, addTag_length _ _ _, ?_⟩
    simp only [Wr.app]
    cases (Wf i).wb with
    | none => rfl
    | some y => simp [bset]
theorem foldW_skip {c : Comp} : ∀ (l : List Nat) (s s' : RS), (∀ j ∈ l, wrC c (Wf j) = false) → REq c s s' → REq c (foldW Wf l s) s'
  | [], s, s', _, h => h
  | i :: l, s, s', hl, h => foldW_skip l _ s' (fun j hj => hl j (by simp [hj])) ((app_skip (hl i (by simp))).trans h)
theorem foldW_cong {c : Comp} : ∀ (l : List Nat) (s s' : RS), REq c s s' → REq c (foldW Wf l s) (foldW Wf l s')
  | [], s, s', h => h
  | i :: l, s, s', h => foldW_cong l _ _ (app_cong h)
/-- two choices out of one list, alike where it counts -/
theorem foldW_alike {c : Comp} {L L' : Nat → Bool} : ∀ (l : List Nat) (s s' : RS), (∀ j ∈ l, wrC c (Wf j) = true → L j = L' j) → REq c s s' → REq c (foldW Wf (l.filter L) s) (foldW Wf (l.filter L') s')
  | [], s, s', _, h => h
  | i :: l, s, s', hl, h => by
    have ih := foldW_alike (c := c) (L := L) (L' := L') l
    have hl' : ∀ j ∈ l, wrC c (Wf j) = true → L j = L' j := fun j hj => hl j (by simp [hj])
    cases hw : wrC c (Wf i) with
    | true =>
      have e := hl i (by simp) hw
      cases hL : L i with
      | true =>
        rw [List.filter_cons_of_pos hL, List.filter_cons_of_pos (e ▸ hL)]
        exact ih _ _ hl' (app_cong h)
      | false =>
        rw [List.filter_cons_of_neg (by simp [hL]), List.filter_cons_of_neg (by simp [← e, hL])]
        exact ih _ _ hl' h
    | false =>
      have sk := app_skip (c := c) (W := Wf i) (s := s) hw
      have sk' := app_skip (c := c) (W := Wf i) (s := s') hw
      cases hL : L i <;> cases hL' : L' i
      · rw [List.filter_cons_of_neg (by simp [hL]), List.filter_cons_of_neg (by simp [hL'])]; exact ih _ _ hl' h
      · rw [List.filter_cons_of_neg (by simp [hL]), List.filter_cons_of_pos hL']; exact ih _ _ hl' (h.trans sk'.symm)
      · rw [List.filter_cons_of_pos hL, List.filter_cons_of_neg (by simp [hL'])]; exact ih _ _ hl' (sk.trans h)
      · rw [List.filter_cons_of_pos hL, List.filter_cons_of_pos hL']; exact ih _ _ hl' (sk.trans (h.trans sk'.symm))

def mg (Wf : Nat → Wr) (m : Nat) (s0 : RS) (L : Nat → Bool) : RS := foldW Wf ((List.range m).filter L) s0
variable {m : Nat} {s0 : RS} {L L' : Nat → Bool}
theorem mg_alike {c : Comp} (h : ∀ j, j < m → wrC c (Wf j) = true → L j = L' j) : REq c (mg Wf m s0 L) (mg Wf m s0 L') :=
  foldW_alike _ _ _ (fun j hj => h j (List.mem_range.1 hj)) .refl
theorem mg_len : (mg Wf m s0 L).T.length = s0.T.length ∧ (mg Wf m s0 L).G.length = s0.G.length ∧ (mg Wf m s0 L).B.length = s0.B.length := foldW_len _ _
/-- one more -/
theorem mg_add {i : Nat} (hi : i < m) (hL : L i = false) (hc : ∀ c, wrC c (Wf i) = true → ∀ j, i < j → j < m → L j = true → wrC c (Wf j) = false) : mg Wf m s0 (fun j => j == i || L j) = (Wf i).app (mg Wf m s0 L) := by
  have hr : List.range m = List.range i ++ i :: (List.range' (i + 1) (m - i - 1)) := by
    rw [List.range_eq_range', List.range_eq_range']
    have e : m = i + (1 + (m - i - 1)) := by omega
    conv => lhs; rw [e, ← List.range'_append_1, ← List.range'_append_1]
    simp [Nat.add_comm]
  have f1 : (List.range i).filter (fun j => j == i || L j) = (List.range i).filter L := by
    apply List.filter_congr
    intro j hj
    have : j ≠ i := by have := List.mem_range.1 hj; omega
    simp [this]
  have f2 : (List.range' (i + 1) (m - i - 1)).filter (fun j => j == i || L j) = (List.range' (i + 1) (m - i - 1)).filter L := by
    apply List.filter_congr
    intro j hj
    have : j ≠ i := by have := List.mem_range'_1.1 hj; omega
    simp [this]
  unfold mg
  rw [hr, List.filter_append, List.filter_append, List.filter_cons_of_pos (by simp), List.filter_cons_of_neg (by simp [hL]), f1, f2]
  have fa : ∀ a b s, foldW Wf (a ++ b) s = foldW Wf b (foldW Wf a s) := fun a b s => List.foldl_append
  rw [fa, fa]
  generalize foldW Wf ((List.range i).filter L) s0 = x
  generalize hC : (List.range' (i + 1) (m - i - 1)).filter L = C
  have hCm : ∀ j ∈ C, i < j ∧ j < m ∧ L j = true := fun j hj => by
    rw [← hC] at hj
    obtain ⟨h1, h2⟩ := List.mem_filter.1 hj
    have := List.mem_range'_1.1 h1
    exact ⟨by omega, by omega, h2⟩
  show foldW Wf C ((Wf i).app x) = (Wf i).app (foldW Wf C x)
  apply eq_of_req
  intro c
  cases hw : wrC c (Wf i) with
  | true =>
    have hs : ∀ j ∈ C, wrC c (Wf j) = false := fun j hj => hc c hw j (hCm j hj).1 (hCm j hj).2.1 (hCm j hj).2.2
    exact (foldW_skip C _ _ hs .refl).trans (app_cong (foldW_skip C _ _ hs .refl).symm)
  | false => exact (foldW_cong C _ _ (app_skip hw)).trans (app_skip hw).symm
end Go.Mu
