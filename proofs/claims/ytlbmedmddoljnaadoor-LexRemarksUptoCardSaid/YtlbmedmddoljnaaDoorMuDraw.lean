/-
  Mu: a region's operations in any order that its edges allow.
-/
import Derived.Test.YtlbmedmddoljnaaDoorMuMerge
set_option linter.unusedVariables false
set_option linter.unusedSimpArgs false
namespace Go.Mu
open Go
variable {P : Program} {fh : FH} {l : List Oper} {b : Array Nat} {m : Nat} {S : Nat → RS} {R : Nat → List Rec} {Wf : Nat → Wr} {L : Nat → Bool} {s s' : RS} {o : Oper} {i : Nat} {recs : List Rec}

structure Tr (P : Program) (fh : FH) (l : List Oper) (b : Array Nat) (m : Nat) (S : Nat → RS) (R : Nat → List Rec) (Wf : Nat → Wr) : Prop where
  run : ∀ i o, i < m → l[i]? = some o → OpRun P fh l i o (S i) (R i) (S (i + 1))
  app : ∀ i, i < m → S (i + 1) = (Wf i).app (S i)
  dst : ∀ i o, i < m → l[i]? = some o → (Wf i).dst = o.dst ∧ (Wf i).c = guardDst l o
  wb : ∀ i d c, i < m → (Wf i).wb = some (d, c) → Rec.eff i (some d) (S i).B (S i).H (S (i + 1)).B (S (i + 1)).H ∈ R i
  wh : ∀ i, i < m → (Wf i).wh.isSome = true → Rec.eff i none (S i).B (S i).H (S (i + 1)).B (S (i + 1)).H ∈ R i
  ptv : ∀ i d off, i < m → (Wf i).v = .ptr (.tmp d) off → Rec.ptv i d ∈ R i
  move : ∀ i o s2, i < m → l[i]? = some o → Fits P l i o (S i) (R i) s2 → ∃ recs2, OpRun P fh l i o s2 recs2 ((Wf i).app s2)
  pair : ∀ i j, i < j → j < m → ∀ x, x ∈ R i → ∀ y, y ∈ R j → pairOk P b x y = true
  le : m ≤ l.length

def Down (b : Array Nat) (L : Nat → Bool) : Prop := ∀ i j, i < j → (b.getD j 0).testBit i = true → L j = true → L i = true
structure Ready (b : Array Nat) (L : Nat → Bool) (i : Nat) : Prop where
  no : L i = false
  ahead : ∀ k, k < i → (b.getD i 0).testBit k = true → L k = true
theorem cmp_comm (i j : Nat) : cmpB b i j = cmpB b j i := by
  unfold cmpB
  rcases Nat.lt_trichotomy i j with h | h | h
  · rw [if_pos h, if_neg (by omega)]
  · subst h; rfl
  · rw [if_neg (by omega), if_pos h]
theorem cmp_iff (hd : Down b L) (hr : Ready b L i) {j : Nat} (hne : j ≠ i) (hc : cmpB b i j = true) : L j = decide (j < i) := by
  unfold cmpB at hc
  rcases Nat.lt_trichotomy i j with h | h | h
  · rw [if_pos h] at hc
    rw [decide_eq_false (by omega)]
    cases hL : L j with
    | false => rfl
    | true => have := hd i j h hc hL; rw [hr.no] at this; cases this
  · exact absurd h.symm hne
  · rw [if_neg (by omega)] at hc
    rw [hr.ahead j h hc, decide_eq_true h]

theorem Tr.text (tr : Tr P fh l b m S R Wf) : ∀ i, i ≤ m → S i = mg Wf m (S 0) (fun j => decide (j < i))
  | 0, _ => by
    have : (List.range m).filter (fun j => decide (j < 0)) = [] := by simp
    unfold mg; rw [this]; rfl
  | i + 1, h => by
    rw [tr.app i (by omega), tr.text i (by omega)]
    rw [← mg_add (L := fun j => decide (j < i)) (by omega) (by simp) (fun c _ j h1 _ h2 => by simp at h2; omega)]
    congr 1
    funext j
    have e : (j < i + 1) ↔ (j = i ∨ j < i) := by omega
    simp only [e, Bool.decide_or]
    by_cases h : j = i <;> simp [h]

/-- the text's state at k, and a choice that agrees with it where it counts -/
theorem Tr.agree (tr : Tr P fh l b m S R Wf) {c : Comp} {k : Nat} (hk : k ≤ m) (h : ∀ j, j < m → wrC c (Wf j) = true → L j = decide (j < k)) : REq c (mg Wf m (S 0) L) (S k) := by
  rw [tr.text k hk]
  exact mg_alike h

theorem names_cmp (hn : namesOk l b = true) {i j : Nat} {oi oj : Oper} (hi : l[i]? = some oi) (hj : l[j]? = some oj) (hne : i ≠ j) {d : Nat} (hd : oi.dst = some d) (hm : d ∈ namesOf l oj) : cmpB b i j = true := by
  unfold namesOk at hn
  simp only [List.all_eq_true] at hn
  have h1 : (oi, i) ∈ l.zipIdx := by rw [List.mem_zipIdx_iff_getElem?]; exact hi
  have h2 : (oj, j) ∈ l.zipIdx := by rw [List.mem_zipIdx_iff_getElem?]; exact hj
  have := hn _ h1 _ h2
  simp only [Bool.or_eq_true, beq_iff_eq, hd, Bool.not_eq_true'] at this
  rcases this with (h | h) | h
  · exact absurd h hne
  · exact h
  · rw [List.contains_iff_mem.2 hm] at h; cases h
theorem guards_lt (hg : guardsOk l = true) {i j : Nat} {oi oj : Oper} (hi : l[i]? = some oi) (hj : l[j]? = some oj) {d : Nat} {q : Bool} (hd : oi.dst = some d) (hgd : guardDst l oj = some (d, q)) : i < j := by
  unfold guardsOk at hg
  simp only [List.all_eq_true] at hg
  have h1 : (oi, i) ∈ l.zipIdx := by rw [List.mem_zipIdx_iff_getElem?]; exact hi
  have h2 : (oj, j) ∈ l.zipIdx := by rw [List.mem_zipIdx_iff_getElem?]; exact hj
  have := hg _ h1 _ h2
  simp only [Bool.and_eq_true, hgd, hd, Bool.or_eq_true, bne_iff_ne, ne_eq, not_true, false_or, decide_eq_true_eq] at this
  exact this.1

theorem mg_tag (hG : ∀ t, (S 0).G.getD t none = none) {t d : Nat} {q g : Bool} : ∀ (C : List Nat) (s : RS), (foldW Wf C s).G.getD t none = some (d, q, g) → s.G.getD t none = none → ∃ j ∈ C, (Wf j).dst = some t ∧ (Wf j).c = some (d, q)
  | [], s, h, h0 => by rw [show foldW Wf [] s = s from rfl, h0] at h; cases h
  | j :: C, s, h, h0 => by
    by_cases hj : ((Wf j).app s).G.getD t none = none
    · obtain ⟨k, h1, h2⟩ := mg_tag hG C _ h hj
      exact ⟨k, by simp [h1], h2⟩
    · by_cases hex : ∃ k ∈ C, (Wf k).dst = some t ∧ (Wf k).c = some (d, q)
      · obtain ⟨k, h1, h2⟩ := hex; exact ⟨k, by simp [h1], h2⟩
      · -- the tag is this one's, or a later one's that is like it
        have hd : (Wf j).dst = some t := by
          by_cases e : (Wf j).dst = some t
          · exact e
          · exact absurd ((addTag_other e).trans h0) hj
        cases hc : (Wf j).c with
        | none =>
          refine absurd ?_ hj
          simp only [Wr.app, hc]
          cases (Wf j).dst <;> exact h0
        | some c =>
          obtain ⟨d1, q1⟩ := c
          have key : ∀ (C : List Nat) (s : RS), (foldW Wf C s).G.getD t none = some (d, q, g) → (∀ k ∈ C, ¬((Wf k).dst = some t ∧ (Wf k).c = some (d, q))) → ∃ g', s.G.getD t none = some (d, q, g') := by
            intro C
            induction C with
            | nil => intro s h _; exact ⟨g, h⟩
            | cons k C ih =>
              intro s h hno
              obtain ⟨g', hg'⟩ := ih _ h (fun k hk => hno k (by simp [hk]))
              by_cases e : (Wf k).dst = some t
              · cases hck : (Wf k).c with
                | none =>
                  refine ⟨g', ?_⟩
                  rw [← hg']
                  simp only [Wr.app, hck]
                  cases (Wf k).dst <;> rfl
                | some ck =>
                  obtain ⟨d2, q2⟩ := ck
                  have e2 : ((Wf k).app s).G.getD t none = (addTag s.G (some t) (some (d2, q2)) (Wf k).g).getD t none := by simp only [Wr.app, e, hck]
                  rw [e2, addTag_same] at hg'
                  split at hg'
                  · simp only [Option.some.injEq, Prod.mk.injEq] at hg'
                    obtain ⟨rfl, rfl, _⟩ := hg'
                    exact absurd ⟨e, hck⟩ (hno k (by simp))
                  · cases hg'
              · exact ⟨g', by rw [← hg']; exact (addTag_other e).symm⟩
          obtain ⟨g', hg'⟩ := key C _ h (fun k hk hh => hex ⟨k, hk, hh⟩)
          have e2 : ((Wf j).app s).G.getD t none = (addTag s.G (some t) (some (d1, q1)) (Wf j).g).getD t none := by simp only [Wr.app, hd, hc]
          rw [e2, addTag_same] at hg'
          split at hg'
          · simp only [Option.some.injEq, Prod.mk.injEq] at hg'
            obtain ⟨rfl, rfl, _⟩ := hg'
            exact ⟨j, by simp, hd, hc⟩
          · cases hg'
theorem mg_val {t : Nat} {d off : Nat} : ∀ (C : List Nat) (s : RS), (foldW Wf C s).T.getD t .undef = .ptr (.tmp d) off → s.T.getD t .undef = .ptr (.tmp d) off ∨ ∃ j ∈ C, (Wf j).v = .ptr (.tmp d) off
  | [], s, h => .inl h
  | j :: C, s, h => by
    rcases mg_val C _ h with g | ⟨k, h1, h2⟩
    · by_cases e : (Wf j).dst = some t
      · have e2 : ((Wf j).app s).T.getD t .undef = (setDst s.T (some t) (Wf j).v).getD t .undef := by simp only [Wr.app, e]
        rw [e2, setDst_same] at g
        split at g
        · exact .inr ⟨j, by simp, g⟩
        · cases g
      · left
        rw [← g]
        exact (setDst_other e).symm
    · exact .inr ⟨k, by simp [h1], h2⟩

theorem sameV_eq {u v : AVal} (h : sameV u v = true) : u = v := by
  unfold sameV at h
  rcases Bool.or_eq_true_iff.1 h with h | h
  · split at h <;> simp_all
  · split at h
    · assumption
    · simp at h
theorem loadA_cong {B B' : Boxes} {H H' : Heap} {t : TypeId} {p : AVal} (h1 : ∀ x, resOf p = some x → B'.getD x [] = B.getD x []) (h2 : resOf p = none → H' = H) : loadA P B' H' t p = loadA P B H t p := by
  have hr : ∀ n, readCells B' H' p n = readCells B H p n := by
    intro n
    unfold readCells
    cases p <;> try rfl
    · rename_i q off
      cases q with
      | tmp x => simp only; rw [h1 x rfl]
      | hp k => rw [h2 rfl]
    · rw [h2 rfl]
  unfold loadA
  simp only [hr]
def compOf (p : AVal) : Comp := match resOf p with
  | some x => .B x
  | none => .H
theorem load_req {t : TypeId} {p : AVal} (h : REq (compOf p) s s') : loadA P s.B s.H t p = loadA P s'.B s'.H t p := by
  unfold compOf at h
  cases hp : resOf p with
  | none => rw [hp] at h; exact loadA_cong (fun x hx => by rw [hp] at hx; cases hx) (fun _ => h)
  | some x => rw [hp] at h; exact loadA_cong (fun y hy => by rw [hp] at hy; cases hy; exact h.2) (fun hh => by rw [hp] at hh; cases hh)
theorem rd_text (hr : OpRun P fh l i o s recs s') (hg : gvOf s (guardDst l o) = true) {t : TypeId} {p v : AVal} (hm : Rec.rd i t p v ∈ recs) : loadA P s.B s.H t p = some (true, v) := by
  cases hr with
  | void c v _ hgo hc hgv hpt => rw [hc, hgv] at hg; cases hg
  | run q hgo hgv htag hst hok hw =>
    unfold recOf at hm
    simp only [List.mem_append] at hm
    rcases hm with (((hm | hm) | hm) | hm) | hm
    · obtain ⟨dst, op, type, pos, after, guard⟩ := o
      cases op <;> simp at hm
      obtain ⟨rfl, rfl, rfl⟩ := hm
      simp only [stepOp] at hst
      obtain ⟨ok, u, h3, h4⟩ := val_some hst
      rw [h4] at hok ⊢
      simp only at hok ⊢
      rw [h3, hok]
    · split at hm <;> simp at hm
    · split at hm <;> simp at hm
    · unfold alOf at hm
      split at hm <;> simp at hm
    · unfold ptvOf at hm
      split at hm <;> simp at hm
  | call f args g caps v H1 hgo hgv htag hkind hf hn hcall hq hp =>
    unfold callRecs at hm
    simp only [List.mem_append] at hm
    rcases hm with hm | hm
    · split at hm
      · split at hm <;> simp at hm
      · simp at hm
    · unfold ptvOf at hm
      split at hm <;> simp at hm
  | dfr f args g caps hgo hc htag hkind hargs hf hn => simp at hm

theorem max_of {p : Nat → Prop} : ∀ (m : Nat), (∃ k, k < m ∧ p k) → ∃ k, k < m ∧ p k ∧ ∀ j, k < j → j < m → ¬ p j
  | 0, ⟨k, h, _⟩ => by omega
  | m + 1, ⟨k, h, hp⟩ => by
    by_cases hm : p m
    · exact ⟨m, by omega, hm, fun j h1 h2 => by omega⟩
    · have hk : k < m := by
        rcases Nat.lt_or_ge k m with g | g
        · exact g
        · have : k = m := by omega
          subst this; exact absurd hp hm
      obtain ⟨k', h1, h2, h3⟩ := max_of m ⟨k, hk, hp⟩
      refine ⟨k', by omega, h2, fun j g1 g2 => ?_⟩
      rcases Nat.lt_or_ge j m with g | g
      · exact h3 j g1 g
      · have : j = m := by omega
        subst this; exact hm
theorem min_of {p : Nat → Prop} : ∀ (m : Nat), p m → ∃ k, k ≤ m ∧ p k ∧ ∀ j, j < k → ¬ p j := by
  intro m
  induction m using Nat.strongRecOn with
  | _ m ih =>
    intro hp
    by_cases hex : ∃ j, j < m ∧ p j
    · obtain ⟨j, h1, h2⟩ := hex
      obtain ⟨k, g1, g2, g3⟩ := ih j h1 h2
      exact ⟨k, by omega, g2, g3⟩
    · exact ⟨m, Nat.le_refl _, hp, fun j hj hpj => hex ⟨j, hj, hpj⟩⟩

/-- writers of one box, or of the heap -/
theorem Tr.eff_of (tr : Tr P fh l b m S R Wf) {c : Comp} {x : Option Nat} (hc : c = (match x with | some d => .B d | none => .H)) {j : Nat} (hj : j < m) (hw : wrC c (Wf j) = true) : Rec.eff j x (S j).B (S j).H (S (j + 1)).B (S (j + 1)).H ∈ R j := by
  subst hc
  cases x with
  | none => exact tr.wh j hj hw
  | some d =>
    simp only [wrC] at hw
    cases hb : (Wf j).wb with
    | none => rw [hb] at hw; simp at hw
    | some y =>
      obtain ⟨d', c'⟩ := y
      rw [hb] at hw
      simp only [beq_iff_eq] at hw
      subst hw
      exact tr.wb j _ _ hj hb
theorem Tr.eff_cmp (tr : Tr P fh l b m S R Wf) {c : Comp} {x : Option Nat} (hc : c = (match x with | some d => .B d | none => .H)) {j k : Nat} (hj : j < m) (hk : k < m) (hne : j ≠ k) (hwj : wrC c (Wf j) = true) (hwk : wrC c (Wf k) = true) : cmpB b j k = true := by
  have ej := tr.eff_of hc hj hwj
  have ek := tr.eff_of hc hk hwk
  rcases Nat.lt_or_gt_of_ne hne with h | h
  · have := tr.pair j k h hk _ ej _ ek
    cases hcmp : cmpB b j k with
    | true => rfl
    | false => simp [pairOk, hcmp, hne] at this
  · have := tr.pair k j h hj _ ek _ ej
    rw [cmp_comm]
    cases hcmp : cmpB b k j with
    | true => rfl
    | false => simp [pairOk, hcmp, Ne.symm hne] at this
end Go.Mu
/-
  Mu: a region's operations in any order that its edges allow: each fits.
-/
namespace Go.Mu
open Go
variable {P : Program} {fh : FH} {l : List Oper} {b : Array Nat} {m : Nat} {S : Nat → RS} {R : Nat → List Rec} {Wf : Nat → Wr} {L : Nat → Bool} {s s' : RS} {o : Oper} {i : Nat} {recs : List Rec}

/-- the state after the operations of L -/
abbrev at' (Wf : Nat → Wr) (m : Nat) (S : Nat → RS) (L : Nat → Bool) : RS := mg Wf m (S 0) L

theorem op_at (tr : Tr P fh l b m S R Wf) {j : Nat} (hj : j < m) : ∃ o, l[j]? = some o := ⟨l[j]'(Nat.lt_of_lt_of_le hj tr.le), List.getElem?_eq_getElem _⟩
theorem names_req (tr : Tr P fh l b m S R Wf) (hn : namesOk l b = true) (hd : Down b L) (hr : Ready b L i) (him : i ≤ m) (ho : l[i]? = some o) {t : Nat} (ht : t ∈ namesOf l o) :
    (at' Wf m S L).T.getD t .undef = (S i).T.getD t .undef ∧ (at' Wf m S L).G.getD t none = (S i).G.getD t none := by
  have key : ∀ j, j < m → (Wf j).dst = some t → L j = decide (j < i) := fun j hj hw => by
    by_cases e : j = i
    · subst e; rw [hr.no]; simp
    · obtain ⟨oj, hoj⟩ := op_at tr hj
      exact cmp_iff hd hr e (by rw [cmp_comm]; exact names_cmp hn hoj ho e (by rw [← (tr.dst j oj hj hoj).1]; exact hw) ht)
  exact ⟨(tr.agree (c := .T t) him (fun j hj hw => key j hj (by simpa [wrC] using hw))).2, (tr.agree (c := .G t) him (fun j hj hw => key j hj (by simp only [wrC, Bool.and_eq_true, beq_iff_eq] at hw; exact hw.1))).2⟩
theorem heap_req (tr : Tr P fh l b m S R Wf) (hd : Down b L) (hr : Ready b L i) (him : i ≤ m) (h : ∀ j, j < m → j ≠ i → wrC .H (Wf j) = true → cmpB b i j = true) : (at' Wf m S L).H = (S i).H :=
  tr.agree (c := .H) him (fun j hj hw => by
    by_cases e : j = i
    · subst e; rw [hr.no]; simp
    · exact cmp_iff hd hr e (h j hj e hw))
theorem free_req (tr : Tr P fh l b m S R Wf) (hG : ∀ t, (S 0).G.getD t none = none) (hn : namesOk l b = true) (hgs : guardsOk l = true) (hd : Down b L) (hr : Ready b L i) (him : i ≤ m) (ho : l[i]? = some o) (hf : freeDst (S i).G o.dst = true) :
    freeDst (at' Wf m S L).G o.dst = true := by
  cases hdst : o.dst with
  | none => rfl
  | some d =>
    rw [hdst] at hf
    have hm : d ∈ namesOf l o := by unfold namesOf; rw [hdst]; simp
    have h2 := (names_req tr hn hd hr him ho hm).2
    have h3 := free_none hf
    simp only [freeDst, Bool.and_eq_true, List.all_eq_true]
    refine ⟨fun x hx => ?_, by rw [h2, h3]; rfl⟩
    cases x with
    | none => rfl
    | some y =>
      obtain ⟨e, q, g⟩ := y
      simp only [bne_iff_ne, ne_eq]
      intro he; subst he
      obtain ⟨t, ht⟩ := List.mem_iff_getElem?.1 hx
      have hg : (at' Wf m S L).G.getD t none = some (e, q, g) := by rw [List.getD_eq_getElem?_getD, ht]; rfl
      obtain ⟨j, hj, hj2, hj3⟩ := mg_tag hG _ _ hg (hG t)
      obtain ⟨hjr, hjL⟩ := List.mem_filter.1 hj
      have hjm := List.mem_range.1 hjr
      obtain ⟨oj, hoj⟩ := op_at tr hjm
      have hgd : guardDst l oj = some (e, q) := by rw [← (tr.dst j oj hjm hoj).2]; exact hj3
      have hlt := guards_lt hgs ho hoj hdst hgd
      have hc := names_cmp hn ho hoj (by omega) hdst (guard_names hgd)
      unfold cmpB at hc
      rw [if_pos hlt] at hc
      have := hd i j hlt hc hjL
      rw [hr.no] at this; cases this

theorem al_rec (hr : OpRun P fh l i o s recs s') {d : Nat} (hm : Rec.al i d ∈ recs) (hg : gvOf s (guardDst l o) = true) : isAl o = true ∧ o.dst = some d := by
  cases hr with
  | void c v _ hgo hc hgv hpt => rw [hc, hgv] at hg; cases hg
  | run q hgo hgv htag hst hok hw =>
    unfold recOf at hm
    simp only [List.mem_append] at hm
    rcases hm with (((hm | hm) | hm) | hm) | hm
    · split at hm <;> simp at hm
    · split at hm <;> simp at hm
    · split at hm <;> simp at hm
    · unfold alOf at hm
      split at hm
      · rename_i t d' he hw'
        simp at hm; subst hm
        refine ⟨by unfold isAl; rw [he], ?_⟩
        unfold writes at hw'
        rw [he] at hw'
        simp only at hw'
        split at hw' <;> simp at hw'
        exact hw'
      · rename_i t x d' he hw'
        simp at hm; subst hm
        refine ⟨by unfold isAl; rw [he], ?_⟩
        unfold writes at hw'
        rw [he] at hw'
        simp only at hw'
        split at hw' <;> simp at hw'
        exact hw'
      · simp at hm
    · unfold ptvOf at hm
      split at hm <;> simp at hm
  | call f args g caps v H1 hgo hgv htag hkind hf hn hcall hq hp =>
    unfold callRecs at hm
    simp only [List.mem_append] at hm
    rcases hm with hm | hm
    · split at hm
      · split at hm <;> simp at hm
      · simp at hm
    · unfold ptvOf at hm
      split at hm <;> simp at hm
  | dfr f args g caps hgo hc htag hkind hargs hf hn => simp at hm
theorem OpRun.go (h : OpRun P fh l i o s recs s') : guardGo l s o := by cases h <;> assumption
theorem reread_ok {B B' : Boxes} {H H' : Heap} {t : TypeId} {p v : AVal} (h : reread P B H t p v = true) (ht : loadA P B' H' t p = some (true, v)) : loadA P B H t p = some (true, v) := by
  unfold reread at h
  split at h
  · rw [← ht]; rfl
  · split at h
    · rename_i ok u hl
      simp only [Bool.and_eq_true] at h
      rw [hl, h.1, sameV_eq h.2]
    · simp at h
theorem fits (tr : Tr P fh l b m S R Wf) (hG : ∀ t, (S 0).G.getD t none = none) (hA : ∀ o ∈ l, isAl o = true → (S 0).T.any (pointsTo (o.dst.getD 0)) = false) (hn : namesOk l b = true) (hgs : guardsOk l = true) (hd : Down b L) (hr : Ready b L i) (him : i < m) (ho : l[i]? = some o)
    : Fits P l i o (S i) (R i) (at' Wf m S L) := by
  have hrun := tr.run i o him ho
  have hgo : guardGo l (S i) o := hrun.go
  have lens : (at' Wf m S L).B.length = (S i).B.length := by
    rw [tr.text i (by omega)]; exact (mg_len (L := L)).2.2.trans (mg_len).2.2.symm
  have pairH : ∀ (x : Rec), x ∈ R i → (∀ (b' : Array Nat) j B0 H0 B1 H1, j ≠ i → (pairOk P b' x (.eff j none B0 H0 B1 H1) = true → cmpB b' i j = true) ∧ (pairOk P b' (.eff j none B0 H0 B1 H1) x = true → cmpB b' j i = true)) → (at' Wf m S L).H = (S i).H := fun x hx hp =>
    heap_req tr hd hr (by omega) (fun j hj hne hw => by
      have hm := tr.eff_of (c := .H) (x := none) rfl hj hw
      rcases Nat.lt_or_gt_of_ne hne with h | h
      · rw [cmp_comm]; exact (hp b j _ _ _ _ hne).2 (tr.pair j i h him _ hm _ hx)
      · exact (hp b j _ _ _ _ hne).1 (tr.pair i j h hj _ hx _ hm))
  refine ⟨lens, fun t ht => names_req tr hn hd hr (by omega) ho ht, free_req tr hG hn hgs hd hr (by omega) ho hgo.2.1, fun hu => ?_, fun B0 H0 B1 H1 he => ?_, fun d B0 H0 B1 H1 he => ?_, fun hgv d hal' => ?_, fun hgv t p v hrd => ?_⟩
  · refine pairH _ hu (fun b' j B0 H0 B1 H1 hne => ⟨fun hp => ?_, fun hp => ?_⟩)
    · simpa [pairOk, Ne.symm hne] using hp
    · simpa [pairOk, hne] using hp
  · refine pairH _ he (fun b' j B0 H0 B1 H1 hne => ⟨fun hp => ?_, fun hp => ?_⟩)
    · simpa [pairOk, Ne.symm hne] using hp
    · simpa [pairOk, hne] using hp
  · refine (tr.agree (c := .B d) (k := i) (by omega) (fun j hj hw => ?_)).2
    by_cases e : j = i
    · subst e; rw [hr.no]; simp
    · have hm := tr.eff_of (c := .B d) (x := some d) rfl hj hw
      refine cmp_iff hd hr e ?_
      rcases Nat.lt_or_gt_of_ne e with h | h
      · rw [cmp_comm]
        have := tr.pair j i h him _ hm _ he
        simpa [pairOk, e] using this
      · have := tr.pair i j h hj _ he _ hm
        simpa [pairOk, Ne.symm e] using this
  · rw [List.any_eq_false]
    intro v hv hp
    obtain ⟨t, ht⟩ := List.mem_iff_getElem?.1 hv
    have hpv : ∃ off, v = .ptr (.tmp d) off := by
      unfold pointsTo at hp
      split at hp
      · rename_i t' off
        simp only [beq_iff_eq] at hp; subst hp; exact ⟨off, rfl⟩
      · simp at hp
    obtain ⟨off, rfl⟩ := hpv
    have hg : (at' Wf m S L).T.getD t .undef = .ptr (.tmp d) off := by rw [List.getD_eq_getElem?_getD, ht]; rfl
    rcases mg_val _ _ hg with h0 | ⟨j, hj, hjv⟩
    · obtain ⟨ha1, ha2⟩ := al_rec hrun hal' hgv
      have := hA o (List.mem_of_getElem? ho) ha1
      rw [ha2] at this
      rw [List.any_eq_false] at this
      have hm : AVal.ptr (.tmp d) off ∈ (S 0).T := by
        rw [List.getD_eq_getElem?_getD] at h0
        cases hh : (S 0).T[t]? with
        | none => rw [hh] at h0; cases h0
        | some z => rw [hh] at h0; simp at h0; subst h0; exact List.mem_of_getElem? hh
      exact this _ hm (by simp [pointsTo])
    · obtain ⟨hjr, hjL⟩ := List.mem_filter.1 hj
      have hjm := List.mem_range.1 hjr
      have hne : j ≠ i := fun e => by subst e; rw [hr.no] at hjL; cases hjL
      have hm := tr.ptv j d off hjm hjv
      rcases Nat.lt_or_gt_of_ne hne with h | h
      · have := tr.pair j i h him _ hm _ hal'
        simp [pairOk, hne] at this
      · have := tr.pair i j h hjm _ hal' _ hm
        have hc : cmpB b i j = true := by simpa [pairOk, Ne.symm hne] using this
        have := cmp_iff hd hr hne hc
        rw [hjL] at this
        simp at this; omega
  · -- a load
    have htext := rd_text hrun hgv hrd
    have hcx : compOf p = (match resOf p with | some d => .B d | none => .H) := rfl
    by_cases hex : ∃ k, k < m ∧ (i < k ∧ L k = true ∧ wrC (compOf p) (Wf k) = true)
    · obtain ⟨k, hk, ⟨k1, k2, k3⟩, kmax⟩ := max_of m hex
      have hm := tr.eff_of hcx hk k3
      have hreq : REq (compOf p) (at' Wf m S L) (S (k + 1)) := tr.agree (k := k + 1) (by omega) (fun j hj hw => by
        rcases Nat.lt_trichotomy j k with h | h | h
        · have hc := tr.eff_cmp hcx hj hk (by omega) hw k3
          unfold cmpB at hc
          rw [if_pos h] at hc
          rw [hd j k h hc k2, decide_eq_true (by omega)]
        · subst h; rw [k2, decide_eq_true (by omega)]
        · rw [decide_eq_false (by omega)]
          cases hL : L j with
          | false => rfl
          | true => exact absurd ⟨by omega, hL, hw⟩ (kmax j h hj))
      rw [load_req hreq]
      have hp := tr.pair i k k1 hk _ hrd _ hm
      simp only [pairOk, Bool.or_eq_true, bne_iff_ne, ne_eq, not_true, or_false] at hp
      have hnc : cmpB b i k = false := by
        cases hc : cmpB b i k with
        | false => rfl
        | true =>
          have := cmp_iff hd hr (j := k) (by omega) hc
          rw [k2] at this; simp at this; omega
      rw [hnc] at hp
      have hre : reread P (S (k + 1)).B (S (k + 1)).H t p v = true := by simpa using hp
      exact reread_ok hre htext
    · have hno : ∀ j, j < m → i < j → wrC (compOf p) (Wf j) = true → L j = false := fun j h1 h2 h3 => by
        cases hL : L j with
        | false => rfl
        | true => exact absurd ⟨j, h1, h2, hL, h3⟩ hex
      by_cases hex2 : ∃ k, k < i ∧ L k = false ∧ wrC (compOf p) (Wf k) = true
      · obtain ⟨k0, q1, q2, q3⟩ := hex2
        obtain ⟨k, hk0, ⟨g0, g1, g2⟩, gmin⟩ := min_of (p := fun k => k < i ∧ L k = false ∧ wrC (compOf p) (Wf k) = true) k0 ⟨q1, q2, q3⟩
        have hk : k < m := by omega
        have hm := tr.eff_of hcx hk g2
        have hreq : REq (compOf p) (at' Wf m S L) (S k) := tr.agree (k := k) (by omega) (fun j hj hw => by
          rcases Nat.lt_trichotomy j k with h | h | h
          · rw [decide_eq_true h]
            cases hL : L j with
            | true => rfl
            | false => exact (gmin j h ⟨Nat.lt_trans h g0, hL, hw⟩).elim
          · subst h; rw [g1]; simp
          · rw [decide_eq_false (by omega)]
            have hc := tr.eff_cmp hcx hk hj (by omega) g2 hw
            unfold cmpB at hc
            rw [if_pos h] at hc
            cases hL : L j with
            | false => rfl
            | true => have := hd k j h hc hL; rw [g1] at this; cases this)
        rw [load_req hreq]
        have hp := tr.pair k i g0 him _ hm _ hrd
        simp only [pairOk, Bool.or_eq_true, bne_iff_ne, ne_eq, not_true, or_false] at hp
        have hnc : cmpB b k i = false := by
          cases hc : cmpB b k i with
          | false => rfl
          | true =>
            have := cmp_iff hd hr (j := k) (by omega) (by rw [cmp_comm]; exact hc)
            rw [g1] at this; simp at this; omega
        rw [hnc] at hp
        have hre : reread P (S k).B (S k).H t p v = true := by simpa using hp
        exact reread_ok hre htext
      · have hreq : REq (compOf p) (at' Wf m S L) (S i) := tr.agree (k := i) (by omega) (fun j hj hw => by
          rcases Nat.lt_trichotomy j i with h | h | h
          · rw [decide_eq_true h]
            cases hL : L j with
            | true => rfl
            | false => exact absurd ⟨j, h, hL, hw⟩ hex2
          · subst h; rw [hr.no]; simp
          · rw [decide_eq_false (by omega)]; exact hno j hj h hw)
        rw [load_req hreq]; exact htext
end Go.Mu
/-
  Mu: a region's operations in any order that its edges allow: the numbers 'before'; the region.
-/
namespace Go.Mu
open Go
variable {P : Program} {h : Hd} {fh : FH} {l : List Oper} {b : Array Nat} {m : Nat} {S : Nat → RS} {R : Nat → List Rec} {Wf : Nat → Wr} {L : Nat → Bool} {s s' : RS} {o : Oper} {i : Nat} {recs : List Rec} {w w' : World} {a : Act} {E E' : Env} {H H' : Heap} {β β' : Nat → Option Nat} {st st' : St}

/- the numbers -/
def numOf (acc : Array Nat) (o : Oper) : Nat := o.after.foldl (fun s e => if Region.binds .any e then s ||| 2 ^ e.on ||| acc.getD e.on 0 else s) 0
def numsL : List Oper → Array Nat → Array Nat
  | [], acc => acc
  | o :: rest, acc => numsL rest (acc.push (numOf acc o))
theorem before_eq (ops : Array Oper) : Region.before ops = numsL ops.toList #[] := by
  unfold Region.before
  rw [← Array.foldl_toList]
  have : ∀ (l : List Oper) (acc : Array Nat), l.foldl (fun acc o => acc.push (o.after.foldl (fun s e => if Region.binds .any e then s ||| 2 ^ e.on ||| acc.getD e.on 0 else s) 0)) acc = numsL l acc := by
    intro l
    induction l with
    | nil => intro acc; rfl
    | cons o l ih => intro acc; exact ih _
  exact this _ _
theorem num_bit (acc : Array Nat) (o : Oper) (i : Nat) (hb : (numOf acc o).testBit i = true) : ∃ e ∈ o.after, Region.binds .any e = true ∧ (e.on = i ∨ (acc.getD e.on 0).testBit i = true) := by
  unfold numOf at hb
  rw [← Array.foldl_toList] at hb
  have : ∀ (es : List Edge) (s : Nat), (es.foldl (fun s e => if Region.binds .any e then s ||| 2 ^ e.on ||| acc.getD e.on 0 else s) s).testBit i = true → s.testBit i = true ∨ ∃ e ∈ es, Region.binds .any e = true ∧ (e.on = i ∨ (acc.getD e.on 0).testBit i = true) := by
    intro es
    induction es with
    | nil => intro s h; exact .inl h
    | cons e es ih =>
      intro s h
      rcases ih _ h with g | ⟨e', h1, h2⟩
      · simp only at g
        split at g
        · rename_i hbind
          rw [Nat.testBit_or, Nat.testBit_or, Bool.or_eq_true, Bool.or_eq_true] at g
          rcases g with (g | g) | g
          · exact .inl g
          · rw [Nat.testBit_two_pow] at g
            exact .inr ⟨e, by simp, hbind, .inl (by simpa using g)⟩
          · exact .inr ⟨e, by simp, hbind, .inr g⟩
        · exact .inl g
      · exact .inr ⟨e', by simp [h1], h2⟩
  rcases this _ _ hb with g | ⟨e, h1, h2⟩
  · simp at g
  · exact ⟨e, by simpa using h1, h2⟩
theorem nums_get : ∀ (l : List Oper) (acc : Array Nat), (∀ j, j < acc.size → (numsL l acc).getD j 0 = acc.getD j 0) ∧ (numsL l acc).size = acc.size + l.length
  | [], acc => ⟨fun _ _ => rfl, rfl⟩
  | o :: l, acc => by
    have ih := nums_get l (acc.push (numOf acc o))
    refine ⟨fun j hj => ?_, by rw [show numsL (o :: l) acc = numsL l (acc.push (numOf acc o)) from rfl, ih.2]; simp; omega⟩
    rw [show numsL (o :: l) acc = numsL l (acc.push (numOf acc o)) from rfl, ih.1 j (by simp; omega)]
    simp [Array.getD_eq_getD_getElem?, Array.getElem?_push, Nat.ne_of_lt hj]
theorem nums_num : ∀ (l : List Oper) (acc : Array Nat) (k : Nat) (o : Oper), l[k]? = some o → ∃ acc', (numsL l acc).getD (acc.size + k) 0 = numOf acc' o ∧ ∀ j, j < acc.size + k → acc'.getD j 0 = (numsL l acc).getD j 0
  | [], acc, k, o, h => by simp at h
  | p :: l, acc, 0, o, h => by
    simp at h; subst h
    have g := nums_get l (acc.push (numOf acc p))
    refine ⟨acc, ?_, fun j hj => ?_⟩
    · rw [show numsL (p :: l) acc = numsL l (acc.push (numOf acc p)) from rfl, g.1 _ (by simp)]
      simp [Array.getD_eq_getD_getElem?]
    · rw [show numsL (p :: l) acc = numsL l (acc.push (numOf acc p)) from rfl, g.1 j (by simp; omega)]
      simp at hj
      simp [Array.getD_eq_getD_getElem?, Array.getElem?_push, Nat.ne_of_lt hj]
  | p :: l, acc, k + 1, o, h => by
    obtain ⟨acc', h1, h2⟩ := nums_num l (acc.push (numOf acc p)) k o (by simpa using h)
    rw [Array.size_push] at h1 h2
    exact ⟨acc', by rw [show numsL (p :: l) acc = numsL l (acc.push (numOf acc p)) from rfl, ← h1]; congr 1; omega, fun j hj => h2 j (by omega)⟩
/-- what stands ahead of an operation stands behind one of its edges -/
theorem bit_edge (hed : edgesDown l = true) {j : Nat} (ho : l[j]? = some o) {i : Nat} (hb : ((Region.before l.toArray).getD j 0).testBit i = true) :
    ∃ e ∈ o.after, Region.binds .any e = true ∧ e.on < j ∧ (e.on = i ∨ ((Region.before l.toArray).getD e.on 0).testBit i = true) := by
  rw [before_eq] at hb ⊢
  obtain ⟨acc', h1, h2⟩ := nums_num l #[] j o ho
  simp only [Array.size_empty, Nat.zero_add] at h1 h2
  rw [h1] at hb
  obtain ⟨e, he, hbind, hh⟩ := num_bit acc' o i hb
  have hlt : e.on < j := by
    unfold edgesDown at hed
    simp only [List.all_eq_true] at hed
    have hm : (o, j) ∈ l.zipIdx := by rw [List.mem_zipIdx_iff_getElem?]; exact ho
    have := hed _ hm e (by simpa using he)
    simpa [hbind] using this
  refine ⟨e, he, hbind, hlt, hh.imp id (fun g => ?_)⟩
  rw [h2 e.on hlt] at g; exact g
theorem bit_out {j i : Nat} (hj : l.length ≤ j) : ((Region.before l.toArray).getD j 0).testBit i = false := by
  rw [before_eq]
  have := (nums_get l #[]).2
  rw [Array.getD_eq_getD_getElem?, Array.getElem?_eq_none (by simp at this; simp [this]; omega)]
  simp

/- what is listed -/
def Closed (l : List Oper) (L : Nat → Bool) : Prop := ∀ j o, l[j]? = some o → L j = true → ∀ e ∈ o.after, Region.binds .any e = true → L e.on = true
theorem bit_listed (hed : edgesDown l = true) (hc : Closed l L) : ∀ (j i : Nat), ((Region.before l.toArray).getD j 0).testBit i = true → (∀ o, l[j]? = some o → ∀ e ∈ o.after, Region.binds .any e = true → L e.on = true) → L i = true := by
  intro j
  induction j using Nat.strongRecOn with
  | _ j ih =>
    intro i hb hl
    rcases Nat.lt_or_ge j l.length with g | g
    · obtain ⟨e, he, hbind, hlt, hh⟩ := bit_edge hed (List.getElem?_eq_getElem g) hb
      have hon := hl _ (List.getElem?_eq_getElem g) e he hbind
      rcases hh with hh | hh
      · rw [← hh]; exact hon
      · exact ih e.on hlt i hh (fun o ho e' he' hb' => hc e.on o ho hon e' he' hb')
    · rw [bit_out g] at hb; cases hb
theorem closed_down (hed : edgesDown l = true) (hc : Closed l L) : Down (Region.before l.toArray) L := fun i j _ hb hL =>
  bit_listed hed hc j i hb (fun o ho e he hbind => hc j o ho hL e he hbind)
theorem ready_of (hed : edgesDown l = true) (hc : Closed l L) (hno : L i = false) (hall : ∀ o, l[i]? = some o → ∀ e ∈ o.after, Region.binds .any e = true → L e.on = true) : Ready (Region.before l.toArray) L i :=
  ⟨hno, fun k _ hb => bit_listed hed hc i k hb hall⟩
theorem closed_add (hc : Closed l L) (hall : ∀ o, l[i]? = some o → ∀ e ∈ o.after, Region.binds .any e = true → L e.on = true) : Closed l (fun j => j == i || L j) := by
  intro j o ho hL e he hb
  simp only [Bool.or_eq_true, beq_iff_eq] at hL ⊢
  rcases hL with rfl | hL
  · exact .inr (hall o ho e he hb)
  · exact .inr (hc j o ho hL e he hb)
def ofList (listed : Array Bool) : Nat → Bool := fun j => listed.getD j false
theorem ofList_add {listed : Array Bool} (hi : i < listed.size) : ofList (listed.setIfInBounds i true) = fun j => j == i || ofList listed j := by
  funext j
  simp only [ofList, Array.getD_eq_getD_getElem?]
  by_cases e : j = i
  · subst e; simp [hi]
  · rw [Array.getElem?_setIfInBounds_ne (Ne.symm e)]
    simp [e]
theorem count_add {n : Nat} (hi : i < n) (hL : L i = false) : ((List.range n).filter (fun j => !L j)).length = ((List.range n).filter (fun j => !(j == i || L j))).length + 1 := by
  have hr : List.range n = List.range i ++ i :: (List.range' (i + 1) (n - i - 1)) := by
    rw [List.range_eq_range', List.range_eq_range']
    have e : n = i + (1 + (n - i - 1)) := by omega
    conv => lhs; rw [e, ← List.range'_append_1, ← List.range'_append_1]
    simp [Nat.add_comm]
  have f1 : (List.range i).filter (fun j => !(j == i || L j)) = (List.range i).filter (fun j => !L j) := by
    apply List.filter_congr
    intro j hj
    have : j ≠ i := by have := List.mem_range.1 hj; omega
    simp [this]
  have f2 : (List.range' (i + 1) (n - i - 1)).filter (fun j => !(j == i || L j)) = (List.range' (i + 1) (n - i - 1)).filter (fun j => !L j) := by
    apply List.filter_congr
    intro j hj
    have : j ≠ i := by have := List.mem_range'_1.1 hj; omega
    simp [this]
  rw [hr, List.filter_append, List.filter_append, List.filter_cons_of_pos (by simp [hL]), List.filter_cons_of_neg (by simp), f1, f2]
  simp only [List.length_append, List.length_cons]
  omega
end Go.Mu
/-
  Mu: a region whose order is drawn.
-/
namespace Go.Mu
open Go
variable {P : Program} {h : Hd} {fh : FH} {l : List Oper} {b : Array Nat} {m : Nat} {S : Nat → RS} {R : Nat → List Rec} {Wf : Nat → Wr} {L : Nat → Bool} {s s' : RS} {o : Oper} {i : Nat} {recs : List Rec} {w w' : World} {a : Act} {E E' : Env} {H H' : Heap} {β β' : Nat → Option Nat} {st st' : St}

/- the run in the order of the text, as a sequence -/
structure Seq (P : Program) (fh : FH) (l : List Oper) (b : Array Nat) (k m : Nat) (S : Nat → RS) (R : Nat → List Rec) (recs : List Rec) : Prop where
  run : ∀ i o, k ≤ i → i < m → l[i]? = some o → OpRun P fh l i o (S i) (R i) (S (i + 1))
  pair : ∀ i j, k ≤ i → i < j → j < m → ∀ x, x ∈ R i → ∀ y, y ∈ R j → pairOk P b x y = true
  mem : ∀ i, k ≤ i → i < m → ∀ x, x ∈ R i → x ∈ recs
theorem draw_app : ∀ (r2 r1 : List Rec), drawOk P b (r2 ++ r1) = true → drawOk P b r2 = true ∧ ∀ x ∈ r1, ∀ y ∈ r2, pairOk P b x y = true
  | [], r1, _ => ⟨rfl, fun x _ y hy => by simp at hy⟩
  | y :: r2, r1, hd => by
    simp only [List.cons_append, drawOk, Bool.and_eq_true, List.all_eq_true] at hd
    obtain ⟨⟨h1, h2⟩, h3⟩ := hd
    obtain ⟨g1, g2⟩ := draw_app r2 r1 h3
    refine ⟨?_, fun x hx z hz => ?_⟩
    · simp only [drawOk, Bool.and_eq_true, List.all_eq_true]
      exact ⟨⟨fun x hx => h1 x (by simp [hx]), h2⟩, g1⟩
    · rcases List.mem_cons.1 hz with rfl | hz
      · exact h1 x (by simp [hx])
      · exact g2 x hx z hz
theorem draw_bad : ∀ (r : List Rec), drawOk P b r = true → Rec.bad ∉ r
  | [], _ => by simp
  | y :: r, hd => by
    simp only [drawOk, Bool.and_eq_true] at hd
    have ih := draw_bad r hd.2
    intro hm
    rcases List.mem_cons.1 hm with e | hm
    · subst e; simp at hd
    · exact ih hm
theorem seq_cons {k : Nat} {r1 r2 : List Rec} {s s1 : RS} (h1 : OpRun P fh l k o s r1 s1) (ho : l[k]? = some o) (hkm : k < m) (sq : Seq P fh l b (k + 1) m S R r2) (hS : S (k + 1) = s1) (hp : ∀ x ∈ r1, ∀ y ∈ r2, pairOk P b x y = true) :
    Seq P fh l b k m (fun j => if j = k then s else S j) (fun j => if j = k then r1 else R j) (r2 ++ r1) := by
  refine ⟨fun i o' hk hm ho' => ?_, fun i j hk hij hj x hx y hy => ?_, fun i hk hm x hx => ?_⟩
  · by_cases e : i = k
    · subst e
      rw [ho] at ho'
      cases Option.some.inj ho'
      simp only [if_true, if_neg (show i + 1 ≠ i by omega)]
      rw [hS]; exact h1
    · simp only [if_neg e, if_neg (show i + 1 ≠ k by omega)]
      exact sq.run i o' (by omega) hm ho'
  · have ej : j ≠ k := by omega
    simp only [if_neg ej] at hy
    by_cases e : i = k
    · subst e
      simp only [if_true] at hx
      exact hp x hx y (sq.mem j (by omega) hj y hy)
    · simp only [if_neg e] at hx
      exact sq.pair i j (by omega) hij hj x hx y hy
  · by_cases e : i = k
    · subst e
      simp only [if_true] at hx
      simp [hx]
    · simp only [if_neg e] at hx
      exact List.mem_append_left _ (sq.mem i (by omega) hm x hx)
theorem seq_run : ∀ (rest : List Oper) (k : Nat) (s : RS) (recs : List Rec) (s' : RS), OpsRun P fh l rest k s recs s' → l.drop k = rest → drawOk P b recs = true → k ≤ l.length → ∃ S R, S k = s ∧ S l.length = s' ∧ Seq P fh l b k l.length S R recs
  | [], k, s, _, _, .nil _ _, hd, _, hk => by
    have : k = l.length := by
      have := List.drop_eq_nil_iff.1 hd; omega
    subst this
    exact ⟨fun _ => s, fun _ => [], rfl, rfl, ⟨fun i o h1 h2 => by omega, fun i j h1 h2 h3 => by omega, fun i h1 h2 => by omega⟩⟩
  | o :: rest, k, s, _, s', .cons (s1 := s1) (r1 := r1) (r2 := r2) h1 h2, hd, hdr, hk => by
    obtain ⟨g1, g2⟩ := drop_mem hd
    have hkl : k < l.length := (List.getElem?_eq_some_iff.1 g1).1
    obtain ⟨d1, d2⟩ := draw_app r2 r1 hdr
    obtain ⟨S, R, hS, hSn, sq⟩ := seq_run rest (k + 1) s1 r2 s' h2 g2 d1 (by omega)
    refine ⟨_, _, ?_, ?_, seq_cons h1 g1 hkl sq hS d2⟩
    · simp
    · rw [if_neg (by omega)]; exact hSn
theorem seq_pan : ∀ (rest : List Oper) (k : Nat) (s : RS) (m : Nat) (recs : List Rec) (p : AVal) (s' : RS), OpsPan P fh l rest k s m recs p s' → l.drop k = rest → drawOk P b recs = true →
    ∃ S R o, k ≤ m ∧ S k = s ∧ l[m]? = some o ∧ OpPan P fh l o (S m) p s' ∧ Seq P fh l b k m S R recs
  | [], k, s, _, _, _, _, h, _, _ => by cases h
  | o :: rest, k, s, _, _, p, s', .here h1, hd, hdr => by
    obtain ⟨g1, g2⟩ := drop_mem hd
    exact ⟨fun _ => s, fun _ => [], o, Nat.le_refl _, rfl, g1, h1, ⟨fun i o h1 h2 => by omega, fun i j h1 h2 h3 => by omega, fun i h1 h2 => by omega⟩⟩
  | o :: rest, k, s, m, _, p, s', .later (s1 := s1) (r1 := r1) (r2 := r2) h1 h2, hd, hdr => by
    obtain ⟨g1, g2⟩ := drop_mem hd
    obtain ⟨d1, d2⟩ := draw_app r2 r1 hdr
    obtain ⟨S, R, o', hkm, hS, ho', hpan, sq⟩ := seq_pan rest (k + 1) s1 m r2 p s' h2 g2 d1
    refine ⟨fun j => if j = k then s else S j, fun j => if j = k then r1 else R j, o', by omega, by simp, ho', ?_, seq_cons h1 g1 (by omega) sq hS d2⟩
    simp only [if_neg (show m ≠ k by omega)]
    exact hpan

theorem tr_of (sq : Seq P fh l b 0 m S R recs) (hle : m ≤ l.length) (hbad : Rec.bad ∉ recs) : ∃ Wf, Tr P fh l b m S R Wf := by
  have ex : ∀ i, ∃ W : Wr, ∀ (hi : i < m) (o : Oper), l[i]? = some o → S (i + 1) = W.app (S i) ∧ W.dst = o.dst ∧ W.c = guardDst l o ∧ (∀ d c, W.wb = some (d, c) → Rec.eff i (some d) (S i).B (S i).H (S (i + 1)).B (S (i + 1)).H ∈ R i) ∧
      (W.wh.isSome = true → Rec.eff i none (S i).B (S i).H (S (i + 1)).B (S (i + 1)).H ∈ R i) ∧ (∀ d off, W.v = .ptr (.tmp d) off → Rec.ptv i d ∈ R i) ∧ ∀ s2, Fits P l i o (S i) (R i) s2 → ∃ recs2, OpRun P fh l i o s2 recs2 (W.app s2) := by
    intro i
    by_cases hi : i < m
    · obtain ⟨W, hW⟩ := opRun_wr (sq.run i _ (by omega) hi (List.getElem?_eq_getElem (show i < l.length by omega))) (fun hb => hbad (sq.mem i (by omega) hi _ hb))
      refine ⟨W, fun _ o ho => ?_⟩
      rw [List.getElem?_eq_getElem (show i < l.length by omega)] at ho
      cases Option.some.inj ho
      exact hW
    · exact ⟨⟨none, .undef, none, true, none, none⟩, fun h => absurd h hi⟩
  obtain ⟨Wf, hWf⟩ := Classical.axiomOfChoice ex
  have hat : ∀ i, i < m → ∃ o, l[i]? = some o := fun i hi => ⟨_, List.getElem?_eq_getElem (show i < l.length by omega)⟩
  refine ⟨Wf, ⟨fun i o hi ho => sq.run i o (by omega) hi ho, fun i hi => ?_, fun i o hi ho => ?_, fun i d c hi => ?_, fun i hi => ?_, fun i d off hi => ?_, fun i o s2 hi ho => ?_, fun i j hij hj => sq.pair i j (by omega) hij hj, hle⟩⟩
  · obtain ⟨o, ho⟩ := hat i hi; exact (hWf i hi o ho).1
  · exact ⟨(hWf i hi o ho).2.1, (hWf i hi o ho).2.2.1⟩
  · obtain ⟨o, ho⟩ := hat i hi; exact (hWf i hi o ho).2.2.2.1 d c
  · obtain ⟨o, ho⟩ := hat i hi; exact (hWf i hi o ho).2.2.2.2.1
  · obtain ⟨o, ho⟩ := hat i hi; exact (hWf i hi o ho).2.2.2.2.2.1 d off
  · exact (hWf i hi o ho).2.2.2.2.2.2 s2

/-- the lasting facts of one drawn region -/
structure Drawn (P : Program) (fh : FH) (l : List Oper) (m : Nat) (S : Nat → RS) (R : Nat → List Rec) (Wf : Nat → Wr) : Prop where
  tr : Tr P fh l (Region.before l.toArray) m S R Wf
  names : namesOk l (Region.before l.toArray) = true
  edges : edgesDown l = true
  guards : guardsOk l = true
  G0 : ∀ t, (S 0).G.getD t none = none
  al : ∀ o ∈ l, isAl o = true → (S 0).T.any (pointsTo (o.dst.getD 0)) = false

end Go.Mu
/-
  Mu: a region whose order is drawn: all together.
-/
namespace Go.Mu
open Go
variable {P : Program} {h : Hd} {fh : FH} {l : List Oper} {m : Nat} {S : Nat → RS} {R : Nat → List Rec} {Wf : Nat → Wr} {L : Nat → Bool} {s s' : RS} {o : Oper} {i : Nat} {recs : List Rec} {w w' : World} {a : Act} {E E' : Env} {H H' : Heap} {β β' : Nat → Option Nat} {st st' : St}

theorem mem_ready' {j : Nat} {listed : Array Bool} (hs : listed.size = l.length) (hj : j ∈ Region.ready .any l.toArray listed) :
    j < l.length ∧ ofList listed j = false ∧ ∀ o, l[j]? = some o → ∀ e ∈ o.after, Region.binds .any e = true → ofList listed e.on = true := by
  obtain ⟨h1, o, ho, h2⟩ := mem_ready.1 hj
  have ho' : l[j]? = some o := by simpa using ho
  have hlt := (List.getElem?_eq_some_iff.1 ho').1
  refine ⟨hlt, ?_, fun o' ho2 e he hb => ?_⟩
  · unfold ofList
    rw [Array.getD_eq_getD_getElem?] at h1 ⊢
    rw [Array.getElem?_eq_getElem (by omega)] at h1 ⊢
    exact h1
  · rw [ho'] at ho2
    cases Option.some.inj ho2
    exact h2 e he hb
/-- the first that is not listed is ready -/
theorem ready_some (hed : edgesDown l = true) {listed : Array Bool} (hs : listed.size = l.length) {k : Nat} (hk : k < l.length) (hL : ofList listed k = false) : Region.ready .any l.toArray listed ≠ [] := by
  obtain ⟨j, hj, hjL, hmin⟩ := min_of (p := fun k => ofList listed k = false) k hL
  have hjl : j < l.length := by omega
  intro he
  have : j ∈ Region.ready .any l.toArray listed := by
    rw [mem_ready]
    refine ⟨?_, l[j], by simp [hjl], fun e hae hb => ?_⟩
    · unfold ofList at hjL
      rw [Array.getD_eq_getD_getElem?, Array.getElem?_eq_getElem (by omega)] at hjL ⊢
      exact hjL
    · have hlt : e.on < j := by
        unfold edgesDown at hed
        simp only [List.all_eq_true] at hed
        have hm : (l[j], j) ∈ l.zipIdx := by rw [List.mem_zipIdx_iff_getElem?]; exact List.getElem?_eq_getElem hjl
        have := hed _ hm e (by simpa using hae)
        simpa [hb] using this
      have := hmin e.on hlt
      cases hh : ofList listed e.on with
      | true => exact hh
      | false => exact absurd hh this
  rw [he] at this; simp at this

/-- one of the ready -/
theorem draw_step (dr : Drawn P fh l m S R Wf) {listed : Array Bool} (hs : listed.size = l.length) (hc : Closed l (ofList listed)) {Q : Exit → Act → World → Prop} {K : Act → World → Prop} (hi : i ∈ Region.ready .any l.toArray listed) (him : i < m)
    (ri : RI w a E β (mg Wf m (S 0) (ofList listed))) (hK : ∀ w' a' E' β', Next w E β (mg Wf m (S 0) (ofList listed)).H w' a' E' β' (mg Wf m (S 0) (ofList (listed.setIfInBounds i true))) → K a' w') : wpOp P l.toArray Q i K a w := by
  obtain ⟨hlt, hno, hall⟩ := mem_ready' hs hi
  have ho := List.getElem?_eq_getElem hlt
  have hd := closed_down dr.edges hc
  have hr := ready_of dr.edges hc hno hall
  have hf := fits dr.tr dr.G0 dr.al dr.names dr.guards hd hr him ho
  obtain ⟨recs2, hrun⟩ := dr.tr.move i _ _ him ho hf
  have hadd := mg_add (Wf := Wf) (s0 := S 0) (L := ofList listed) him hno (fun c hw j hij hjm hL => by
    cases hwj : wrC c (Wf j) with
    | false => rfl
    | true =>
      have cc : cmpB (Region.before l.toArray) i j = true := by
        obtain ⟨oj, hoj⟩ := op_at dr.tr hjm
        have hdst : ∀ t, (Wf i).dst = some t → (Wf j).dst = some t → cmpB (Region.before l.toArray) i j = true := fun t h1 h2 =>
          names_cmp dr.names ho hoj (by omega) (by rw [← (dr.tr.dst i _ him ho).1]; exact h1) (by unfold namesOf; rw [← (dr.tr.dst j _ hjm hoj).1, h2]; simp)
        cases c with
        | T t => exact hdst t (by simpa [wrC] using hw) (by simpa [wrC] using hwj)
        | G t =>
          simp only [wrC, Bool.and_eq_true, beq_iff_eq] at hw hwj
          exact hdst t hw.1 hwj.1
        | B x => exact dr.tr.eff_cmp (c := .B x) (x := some x) rfl him hjm (by omega) hw hwj
        | H => exact dr.tr.eff_cmp (c := .H) (x := none) rfl him hjm (by omega) hw hwj
        | D => simp [wrC] at hw
      have := cmp_iff hd hr (j := j) (by omega) cc
      rw [hL] at this; simp at this; omega)
  rw [← ofList_add (by omega)] at hadd
  refine op_sound hrun ho ri (fun w' a' E' β' n => hK w' a' E' β' ?_)
  rw [hadd]; exact n

theorem closed_set {listed : Array Bool} (hs : listed.size = l.length) (hc : Closed l (ofList listed)) (hi : i ∈ Region.ready .any l.toArray listed) : Closed l (ofList (listed.setIfInBounds i true)) := by
  obtain ⟨hlt, hno, hall⟩ := mem_ready' hs hi
  rw [ofList_add (by omega)]
  exact closed_add hc hall

theorem draw_normal (dr : Drawn P fh l m S R Wf) (hm : m = l.length) {Q : Exit → Act → World → Prop} : ∀ (fuel : Nat) (listed : Array Bool) (w : World) (a : Act) (E : Env) (β : Nat → Option Nat), listed.size = l.length → Closed l (ofList listed) →
    ((List.range l.length).filter (fun j => !ofList listed j)).length ≤ fuel → RI w a E β (mg Wf m (S 0) (ofList listed)) →
    (∀ w' a' E' β', Next w E β (mg Wf m (S 0) (ofList listed)).H w' a' E' β' (S m) → Q .normal a' w') → wpAny P .any l.toArray Q fuel listed a w := by
  have done : ∀ (listed : Array Bool) (w : World) (a : Act) (E : Env) (β : Nat → Option Nat), (∀ j, j < l.length → ofList listed j = true) → RI w a E β (mg Wf m (S 0) (ofList listed)) → (∀ w' a' E' β', Next w E β (mg Wf m (S 0) (ofList listed)).H w' a' E' β' (S m) → Q .normal a' w') → Q .normal a w := by
    intro listed w a E β hall ri hQ
    have e : mg Wf m (S 0) (ofList listed) = S m := by
      rw [dr.tr.text m (Nat.le_refl _)]
      unfold mg
      congr 1
      apply List.filter_congr
      intro j hj
      have := List.mem_range.1 hj
      rw [hall j (by omega)]
      simp [this]
    rw [e] at ri hQ
    exact hQ w a E β ⟨ri, .refl, fun _ _ h => .inl h⟩
  intro fuel
  induction fuel with
  | zero =>
    intro listed w a E β hs hc hf ri hQ
    have hall : ∀ j, j < l.length → ofList listed j = true := fun j hj => by
      cases hL : ofList listed j with
      | true => rfl
      | false =>
        have hm : j ∈ (List.range l.length).filter (fun j => !ofList listed j) := List.mem_filter.2 ⟨List.mem_range.2 hj, by simp [hL]⟩
        rw [List.eq_nil_of_length_eq_zero (Nat.le_zero.1 hf)] at hm; simp at hm
    refine ⟨?_, done listed w a E β hall ri hQ⟩
    cases hr : Region.ready .any l.toArray listed with
    | nil => rfl
    | cons j js =>
      obtain ⟨hlt, hno, _⟩ := mem_ready' hs (j := j) (by rw [hr]; simp)
      rw [hall j hlt] at hno; cases hno
  | succ fuel ih =>
    intro listed w a E β hs hc hf ri hQ
    refine ⟨fun hnil => done listed w a E β (fun j hj => ?_) ri hQ, fun i hi => ?_⟩
    · cases hL : ofList listed j with
      | true => rfl
      | false => exact absurd hnil (ready_some dr.edges hs hj hL)
    · obtain ⟨hlt, hno, hall⟩ := mem_ready' hs hi
      refine draw_step dr hs hc hi (by omega) ri (fun w' a' E' β' n => ?_)
      refine ih _ w' a' E' β' (by simpa using hs) (closed_set hs hc hi) ?_ n.ri (fun w2 a2 E2 β2 n2 => hQ w2 a2 E2 β2 (n.trans n2))
      have := count_add (n := l.length) (L := ofList listed) hlt hno
      rw [ofList_add (by omega)]
      show ((List.range l.length).filter (fun j => !(j == i || ofList listed j))).length ≤ fuel
      omega

theorem draw_panic (dr : Drawn P fh l m S R Wf) {Q : Exit → Act → World → Prop} {p : AVal} {s' : RS} (hom : l[m]? = some o) (hpan : OpPan P fh l o (S m) p s') (hbeh : behind l.length (Region.before l.toArray) m = true)
    (hH : ∀ j, j < m → wrC .H (Wf j) = true → cmpB (Region.before l.toArray) j m = true) : ∀ (fuel : Nat) (listed : Array Bool) (w : World) (a : Act) (E : Env) (β : Nat → Option Nat), listed.size = l.length → Closed l (ofList listed) → (∀ j, ofList listed j = true → j < m) →
    ((List.range l.length).filter (fun j => !ofList listed j)).length ≤ fuel → RI w a E β (mg Wf m (S 0) (ofList listed)) →
    (∀ w' a' E' β' c s2, RI w' a' E' β' s2 → s2.H = s'.H → s2.D = s'.D → s2.T.length = (S 0).T.length → s2.B.length = (S 0).B.length → (∀ t, (∀ o ∈ l, o.dst ≠ some t) → s2.T.getD t .undef = (S 0).T.getD t .undef ∧ s2.G.getD t none = none) →
      Evo (Xβ β) w E (mg Wf m (S 0) (ofList listed)).H w' E' s2.H → (∀ t b, β' t = some b → β t = some b ∨ w.heap.size ≤ b) → Rep w' E' s2.H p c → Q (.panic [{ v := c, recovered := false }]) a' w') →
    wpAny P .any l.toArray Q fuel listed a w := by
  have hml : m < l.length := (List.getElem?_eq_some_iff.1 hom).1
  intro fuel
  induction fuel with
  | zero =>
    intro listed w a E β hs hc hlm hf ri hQ
    have hm : m ∈ (List.range l.length).filter (fun j => !ofList listed j) := List.mem_filter.2 ⟨List.mem_range.2 hml, by
      cases hL : ofList listed m with
      | false => rfl
      | true => have := hlm m hL; omega⟩
    rw [List.eq_nil_of_length_eq_zero (Nat.le_zero.1 hf)] at hm; simp at hm
  | succ fuel ih =>
    intro listed w a E β hs hc hlm hf ri hQ
    have hmno : ofList listed m = false := by
      cases hL : ofList listed m with
      | false => rfl
      | true => have := hlm m hL; omega
    refine ⟨fun hnil => absurd hnil (ready_some dr.edges hs hml hmno), fun i hi => ?_⟩
    obtain ⟨hlt, hno, hall⟩ := mem_ready' hs hi
    have hd := closed_down dr.edges hc
    have hr := ready_of dr.edges hc hno hall
    rcases Nat.lt_trichotomy i m with him | him | him
    · refine draw_step dr hs hc hi him ri (fun w' a' E' β' n => ?_)
      refine ih _ w' a' E' β' (by simpa using hs) (closed_set hs hc hi) (fun j hj => ?_) ?_ n.ri (fun w2 a2 E2 β2 c s2 r0 r1 r2 r3 r4 r5 ev nw rp => hQ w2 a2 E2 β2 c s2 r0 r1 r2 r3 r4 r5 (n.evo.trans ev (fun b hb => ?_)) (fun t b hb => ?_) rp)
      · rw [ofList_add (by omega)] at hj
        simp only [Bool.or_eq_true, beq_iff_eq] at hj
        rcases hj with rfl | hj
        · exact him
        · exact hlm j hj
      · have := count_add (n := l.length) (L := ofList listed) hlt hno
        rw [ofList_add (by omega)]
        show ((List.range l.length).filter (fun j => !(j == i || ofList listed j))).length ≤ fuel
        omega
      · obtain ⟨t, ht⟩ := hb
        exact (n.new t b ht).imp (fun g => ⟨t, g⟩) id
      · rcases nw t b hb with g | g
        · exact n.new t b g
        · exact .inr (Nat.le_trans n.evo.size g)
    · subst him
      -- the panic, where it stands
      have hfit : ∀ t, t ∈ namesOf l o → (mg Wf i (S 0) (ofList listed)).T.getD t .undef = (S i).T.getD t .undef ∧ (mg Wf i (S 0) (ofList listed)).G.getD t none = (S i).G.getD t none := fun t ht => names_req dr.tr dr.names hd hr (Nat.le_refl _) hom ht
      have hheap : (mg Wf i (S 0) (ofList listed)).H = (S i).H := heap_req dr.tr hd hr (Nat.le_refl _) (fun j hj hne hw => by rw [cmp_comm]; exact hH j hj hw)
      have hD : (mg Wf i (S 0) (ofList listed)).D = (S i).D := dr.tr.agree (c := .D) (Nat.le_refl _) (fun j hj hw => by simp [wrC] at hw)
      have rest : ∀ t, (∀ o ∈ l, o.dst ≠ some t) → (mg Wf i (S 0) (ofList listed)).T.getD t .undef = (S 0).T.getD t .undef ∧ (mg Wf i (S 0) (ofList listed)).G.getD t none = none := fun t ht => by
        have hsk : ∀ j, j < i → (Wf j).dst ≠ some t := fun j hj => by
          obtain ⟨oj, hoj⟩ := op_at dr.tr hj
          rw [(dr.tr.dst j _ hj hoj).1]
          exact ht _ (List.mem_of_getElem? hoj)
        have q1 : REq (.T t) (mg Wf i (S 0) (ofList listed)) (S 0) := foldW_skip _ _ _ (fun j hj => by
          have := hsk j (List.mem_range.1 (List.mem_filter.1 hj).1)
          simpa [wrC] using this) .refl
        have q2 : REq (.G t) (mg Wf i (S 0) (ofList listed)) (S 0) := foldW_skip _ _ _ (fun j hj => by
          have := hsk j (List.mem_range.1 (List.mem_filter.1 hj).1)
          simp [wrC, this]) .refl
        exact ⟨q1.2, q2.2.trans (dr.G0 t)⟩
      have lens := mg_len (Wf := Wf) (m := i) (s0 := S 0) (L := ofList listed)
      cases hpan with
      | pan x t v hg hcg htag hkind hif =>
        have hx : aeval (mg Wf i (S 0) (ofList listed)).T x = aeval (S i).T x := aeval_fit hfit (by rw [kind_pan hkind]; simp [Op.operands])
        refine pan_sound (fh := fh) (.pan x t v (guard_fit hfit (free_req dr.tr dr.G0 dr.names dr.guards hd hr (Nat.le_refl _) hom hg.2.1) hg) hcg (okOp_fit hfit htag) hkind (by rw [hx]; exact hif)) hom ri (fun w' E' c f => ?_)
        exact hQ w' a E' β c _ f.ri hheap hD lens.1 lens.2.2 rest f.evo (fun _ _ h => .inl h) f.rep
      | call f args g caps _ H1 hg hgv htag hkind hf' hn hcall =>
        have ha : aeval (mg Wf i (S 0) (ofList listed)).T f = aeval (S i).T f ∧ args.toList.map (aeval (mg Wf i (S 0) (ofList listed)).T) = args.toList.map (aeval (S i).T) := by
          obtain ⟨c, e, hcc, hca⟩ := kind_call hkind
          refine ⟨aeval_fit hfit (by rw [e]; simp [Op.operands, Call.operands, hcc]), List.map_congr_left fun x hx => aeval_fit hfit ?_⟩
          rw [e]
          have hx' : x ∈ args := by simpa using hx
          simp [Op.operands, Call.operands, hcc, hca, hx']
        refine pan_sound (fh := fh) (.call f args g caps p H1 (guard_fit hfit (free_req dr.tr dr.G0 dr.names dr.guards hd hr (Nat.le_refl _) hom hg.2.1) hg) ((gv_fit hfit).trans hgv) (okOp_fit hfit htag) hkind (by rw [ha.1]; exact hf') (by rw [ha.2]; exact hn) (by rw [ha.2, hheap]; exact hcall)) hom ri (fun w' E' c f => ?_)
        exact hQ w' a E' β c _ f.ri rfl hD lens.1 lens.2.2 rest f.evo (fun _ _ h => .inl h) f.rep
    · exfalso
      have hb : ((Region.before l.toArray).getD i 0).testBit m = true := by
        unfold behind at hbeh
        simp only [List.all_eq_true] at hbeh
        have := hbeh i (List.mem_range.2 hlt)
        simp only [Bool.or_eq_true, decide_eq_true_eq] at this
        rcases this with g | g
        · omega
        · exact g
      have := hr.ahead m him hb
      rw [hmno] at this; cases this

theorem closed_none : Closed l (ofList (Array.replicate l.length false)) := by
  intro j o ho hL
  unfold ofList at hL
  rw [Array.getD_eq_getD_getElem?, Array.getElem?_replicate] at hL
  split at hL <;> simp at hL
theorem mg_none : mg Wf m (S 0) (ofList (Array.replicate l.length false)) = S 0 := by
  have : (List.range m).filter (ofList (Array.replicate l.length false)) = [] := by
    rw [List.filter_eq_nil_iff]
    intro j _ hL
    unfold ofList at hL
    rw [Array.getD_eq_getD_getElem?, Array.getElem?_replicate] at hL
    split at hL <;> simp at hL
  unfold mg; rw [this]; rfl
theorem drawn_world (ci : CI w a E β st) : CI { w with drawn := w.drawn + 1 } a E β st := by
  have hs : Sees w E st.H { w with drawn := w.drawn + 1 } E st.H := ⟨fun b hb => ⟨hb, rfl⟩, fun k hk => ⟨hk, rfl⟩, fun k sz u hk => ⟨u, hk, Nat.le_refl _, fun _ => ⟨rfl, fun _ => rfl⟩⟩⟩
  exact ⟨ci.fs.keep (ci.fs.sim.keep hs (fun k hk => rfl) (Nat.le_refl _)) hs (Nat.le_refl _) (fun t b hb => (ci.fs.box t b hb).1) (fun t b hb k hk => (ci.fs.box t b hb).2.2.1 k hk) (fun t b hb => rfl), ci.bad, ci.tag, ci.defs.mono hs⟩
theorem drawn_evo {X : Nat → Prop} (ev : Evo X { w with drawn := w.drawn + 1 } E H w' E' H') : Evo X w E H w' E' H' :=
  ⟨ev.size, ev.kept, ev.immKept, ev.immNew, ev.var, ev.arr, ev.phi, ev.len, ev.tape, ev.os, ev.output⟩

theorem draw_sound (hh : HOK P h) {id : Nat} {ops : Array Oper} {k : Kont} {out : Out} (hi : iRegion P h fh ops true st k = some out) : ∃ e st', CodeOK P (.region id ops true) st e st' ∧ k e st' = some out := by
  simp only [iRegion, withUntag_eq, iOps_eq] at hi
  split at hi
  case isFalse => simp at hi
  rename_i hst
  simp only [Bool.and_eq_true] at hst
  obtain ⟨⟨hfol, hstat⟩, hall⟩ := hst
  unfold staticOk at hstat
  simp only [Bool.and_eq_true] at hstat
  obtain ⟨⟨hn, hed⟩, hg⟩ := hstat
  have hA : ∀ o ∈ ops.toList, isAl o = true → st.T.any (pointsTo (o.dst.getD 0)) = false := by
    intro o ho ha
    unfold allocsFree at hall
    have := List.all_eq_true.1 hall o ho
    unfold isAl at ha
    split at ha
    · rename_i e; rw [e] at this; simpa using this
    · rename_i e; rw [e] at this; simpa using this
    · simp at ha
  have hsize : ops.size = ops.toList.length := by simp
  rcases iOps_run hh _ _ _ _ _ _ (TagInv.none _) hi with ⟨recs, s', h1, h2⟩ | ⟨j, recs, p, s', h1, h2⟩
  · simp only [List.append_nil, Bool.cond_eq_ite] at h2
    split at h2
    case isFalse => simp at h2
    rename_i hdr
    obtain ⟨S, R, hS, hSn, sq⟩ := seq_run (b := Region.before ops) ops.toList 0 _ _ _ h1 rfl hdr (Nat.zero_le _)
    obtain ⟨Wf, tr⟩ := tr_of sq (Nat.le_refl _) (draw_bad _ hdr)
    have dr : Drawn P fh ops.toList ops.toList.length S R Wf := ⟨tr, hn, hed, hg, fun t => by rw [hS]; exact getD_map_none _ _, fun o ho ha => by rw [hS]; exact hA o ho ha⟩
    refine ⟨.normal, _, fun w a E β ci => ?_, h2⟩
    refine wp_region_any hfol ?_
    rw [hsize]
    refine draw_normal dr rfl ops.toList.length _ _ a E β (by simp) closed_none ?_ (by rw [mg_none, hS]; exact drawn_world ci) (fun w' a' E' β' n => ?_)
    · exact Nat.le_trans (List.length_filter_le _ _) (by simp)
    · rw [mg_none, hS] at n
      rw [hSn] at n
      exact ⟨E', β', trivial, n.ri.untag, drawn_evo n.evo, n.new⟩
  · simp only [List.append_nil, Bool.cond_eq_ite] at h2
    split at h2
    case isFalse => simp at h2
    rename_i hdr
    simp only [Bool.and_eq_true] at hdr
    obtain ⟨hbeh, hdr⟩ := hdr
    have hdr' : drawOk P (Region.before ops) recs = true ∧ ∀ x ∈ recs, pairOk P (Region.before ops) x (.pan j) = true := by
      simp only [drawOk, Bool.and_eq_true, List.all_eq_true] at hdr
      exact ⟨hdr.2, hdr.1.1⟩
    obtain ⟨S, R, o, _, hS, hom, hpan, sq⟩ := seq_pan (b := Region.before ops) ops.toList 0 _ _ _ _ _ h1 rfl hdr'.1
    have hjl : j < ops.toList.length := (List.getElem?_eq_some_iff.1 hom).1
    obtain ⟨Wf, tr⟩ := tr_of sq (Nat.le_of_lt hjl) (draw_bad _ hdr'.1)
    have dr : Drawn P fh ops.toList j S R Wf := ⟨tr, hn, hed, hg, fun t => by rw [hS]; exact getD_map_none _ _, fun o ho ha => by rw [hS]; exact hA o ho ha⟩
    refine ⟨.panic p, _, fun w a E β ci => ?_, h2⟩
    refine wp_region_any hfol ?_
    rw [hsize]
    refine draw_panic dr hom hpan hbeh (fun i hi hw => ?_) ops.toList.length _ _ a E β (by simp) closed_none (fun i hi => ?_) ?_ (by rw [mg_none, hS]; exact drawn_world ci) (fun w' a' E' β' c s2 r0 r1 r2 r3 r4 r5 ev nw rp => ?_)
    · have hm := tr.eff_of (c := .H) (x := none) rfl hi hw
      have := hdr'.2 _ (sq.mem i (Nat.zero_le _) hi _ hm)
      simpa [pairOk] using this
    · unfold ofList at hi
      rw [Array.getD_eq_getD_getElem?, Array.getElem?_replicate] at hi
      split at hi <;> simp at hi
    · exact Nat.le_trans (List.length_filter_le _ _) (by simp)
    · rw [mg_none, hS] at ev
      rw [hS] at r3 r4 r5
      have := r0.panicked (st := st) (ops := ops.toList) r5 r3 r4
      rw [r1, r2] at this
      refine ⟨E', β', ⟨c, rfl, by rw [r1] at rp; exact rp⟩, this, by rw [r1] at ev; exact drawn_evo ev, nw⟩

theorem regions_ok (hh : HOK P h) (fh : FH) : RegionsOK P h fh := by
  intro id ops draw st k out hi
  cases draw with
  | false => exact region_sound hh hi
  | true => exact draw_sound hh hi
/-- every loop that is told ahead is told right -/
def LoopsOK (P : Program) (fhs : FuncId → FH) : Prop := ∀ g fn c, P.funcs[g]? = some fn → fn.body = some c → LOk P (fhs g) c
theorem LoopsOK.none {fhs : FuncId → FH} (h : ∀ g i, (fhs g).loops i = none) : LoopsOK P fhs := fun g fn c _ _ => LOk.none (h g) c
theorem mu_sound {spec : Hd} {known : FuncId → Bool} {fhs : FuncId → FH} (hs : HOK P spec) (hl : LoopsOK P fhs) (F n : Nat) : HOK P (iAll P spec known fhs F n) := iAll_sound hs (fun h hh g => ⟨regions_ok hh (fhs g), hl g⟩) n
end Go.Mu
