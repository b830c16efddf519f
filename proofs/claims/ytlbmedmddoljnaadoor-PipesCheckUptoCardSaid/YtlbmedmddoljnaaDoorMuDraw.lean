/-
  Mu: a region's operations in any order that its edges allow.
-/
import Derived.Test.YtlbmedmddoljnaaDoorMuMerge
set_option linter.unusedVariables false
set_option linter.unusedSimpArgs false
namespace Go.Mu
open Go
variable {P : Program} {fh : FH} {l : List Oper} {b : Array Nat} {m : Nat} {S : Nat → RS} {R : Nat → List Rec} {Wf : Nat → Wr} {L : Nat → Bool} {s s' : RS} {o : Oper} {i : Nat} {recs : List Rec}

structure Tr (P : Program) (fh : FH) (l : List Oper) (b : Array Nat) (m : Nat) (S : Nat → RS) (R : Nat → List Rec) (Wf : Nat → Wr) : Prop where
  run : ∀ i o, i < m → l[i]? = some o → OpRun P fh l i o (S i) (R i) (S (i + 1))
  app : ∀ i, i < m → S (i + 1) = (Wf i).app (S i)
  dst : ∀ i o, i < m → l[i]? = some o → (Wf i).dst = o.dst ∧ (Wf i).c = guardDst l o
  wb : ∀ i d c, i < m → (Wf i).wb = some (d, c) → Rec.eff i (some d) (S i).B (S i).H (S (i + 1)).B (S (i + 1)).H ∈ R i
  wh : ∀ i, i < m → (Wf i).wh.isSome = true → Rec.eff i none (S i).B (S i).H (S (i + 1)).B (S (i + 1)).H ∈ R i
  ptv : ∀ i d off, i < m → (Wf i).v = .ptr (.tmp d) off → Rec.ptv i d ∈ R i
  move : ∀ i o s2, i < m → l[i]? = some o → Fits P l i o (S i) (R i) s2 → ∃ recs2, OpRun P fh l i o s2 recs2 ((Wf i).app s2)
  pair : ∀ i j, i < j → j < m → ∀ x, x ∈ R i → ∀ y, y ∈ R j → pairOk P b x y = true
  le : m ≤ l.length

def Down (b : Array Nat) (L : Nat → Bool) : Prop := ∀ i j, i < j → (b.getD j 0).testBit i = true → L j = true → L i = true
structure Ready (b : Array Nat) (L : Nat → Bool) (i : Nat) : Prop where
  no : L i = false
  ahead : ∀ k, k < i → (b.getD i 0).testBit k = true → L k = true
theorem cmp_comm (i j : Nat) : cmpB b i j = cmpB b j i := by
  unfold cmpB
  rcases Nat.lt_trichotomy i j with h | h | h
  · rw [if_pos h, if_neg (by omega)]
  · subst h; rfl
  · rw [if_neg (by omega), if_pos h]
theorem cmp_iff (hd : Down b L) (hr : Ready b L i) {j : Nat} (hne : j ≠ i) (hc : cmpB b i j = true) : L j = decide (j < i) := by
  unfold cmpB at hc
  rcases Nat.lt_trichotomy i j with h | h | h
  · rw [if_pos h] at hc
    rw [decide_eq_false (by omega)]
    cases hL : L j with
    | false => rfl
    | true => have := hd i j h hc hL; rw [hr.no] at this; cases this
  · exact absurd h.symm hne
  · rw [if_neg (by omega)] at hc
    rw [hr.ahead j h hc, decide_eq_true h]

theorem Tr.text (tr : Tr P fh l b m S R Wf) : ∀ i, i ≤ m → S i = mg Wf m (S 0) (fun j => decide (j < i))
  | 0, _ => by
    have : (List.range m).filter (fun j => decide (j < 0)) = [] := by simp
    unfold mg; rw [this]; rfl
  | i + 1, h => by
    rw [tr.app i (by omega), tr.text i (by omega)]
    rw [← mg_add (L := fun j => decide (j < i)) (by omega) (by simp) (fun c _ j h1 _ h2 => by simp at h2; omega)]
    congr 1
    funext j
    have e : (j < i + 1) ↔ (j = i ∨ j < i) := by omega
    simp only [e, Bool.decide_or]
    by_cases h : j = i <;> simp [h]

/-- the text's state at k, and a choice that agrees with it where it counts -/
theorem Tr.agree (tr : Tr P fh l b m S R Wf) {c : Comp} {k : Nat} (hk : k ≤ m) (h : ∀ j, j < m → wrC c (Wf j) = true → L j = decide (j < k)) : REq c (mg Wf m (S 0) L) (S k) := by
  rw [tr.text k hk]
  exact mg_alike h

theorem names_cmp (hn : namesOk l b = true) {i j : Nat} {oi oj : Oper} (hi : l[i]? = some oi) (hj : l[j]? = some oj) (hne : i ≠ j) {d : Nat} (hd : oi.dst = some d) (hm : d ∈ namesOf l oj) : cmpB b i j = true := by
  unfold namesOk at hn
  simp only [List.all_eq_true] at hn
  have h1 : (oi, i) ∈ l.zipIdx := by rw [List.mem_zipIdx_iff_getElem?]; exact hi
  have h2 : (oj, j) ∈ l.zipIdx := by rw [List.mem_zipIdx_iff_getElem?]; exact hj
  have := hn _ h1 _ h2
  simp only [Bool.or_eq_true, beq_iff_eq, hd, Bool.not_eq_true'] at this
  rcases this with (h | h) | h
  · exact absurd h hne
  · exact h
  · rw [List.contains_iff_mem.2 hm] at h; cases h
theorem guards_lt (hg : guardsOk l = true) {i j : Nat} {oi oj : Oper} (hi : l[i]? = some oi) (hj : l[j]? = some oj) {d : Nat} {q : Bool} (hd : oi.dst = some d) (hgd : guardDst l oj = some (d, q)) : i < j := by
  unfold guardsOk at hg
  simp only [List.all_eq_true] at hg
  have h1 : (oi, i) ∈ l.zipIdx := by rw [List.mem_zipIdx_iff_getElem?]; exact hi
  have h2 : (oj, j) ∈ l.zipIdx := by rw [List.mem_zipIdx_iff_getElem?]; exact hj
  have := hg _ h1 _ h2
  simp only [Bool.and_eq_true, hgd, hd, Bool.or_eq_true, bne_iff_ne, ne_eq, not_true, false_or, decide_eq_true_eq] at this
  exact this.1

theorem mg_tag (hG : ∀ t, (S 0).G.getD t none = none) {t d : Nat} {q g : Bool} : ∀ (C : List Nat) (s : RS), (foldW Wf C s).G.getD t none = some (d, q, g) → s.G.getD t none = none → ∃ j ∈ C, (Wf j).dst = some t ∧ (Wf j).c = some (d, q)
  | [], s, h, h0 => by rw [show foldW Wf [] s = s from rfl, h0] at h; cases h
  | j :: C, s, h, h0 => by
    by_cases hj : ((Wf j).app s).G.getD t none = none
    · obtain ⟨k, h1, h2⟩ := mg_tag hG C _ h hj
      exact ⟨k, by simp [h1], h2⟩
    · by_cases hex : ∃ k ∈ C, (Wf k).dst = some t ∧ (Wf k).c = some (d, q)
      · obtain ⟨k, h1, h2⟩ := hex; exact ⟨k, by simp [h1], h2⟩
      · -- the tag is this one's, or a later one's that is like it
        have hd : (Wf j).dst = some t := by
          by_cases e : (Wf j).dst = some t
          · exact e
          · exact absurd ((addTag_other e).trans h0) hj
        cases hc : (Wf j).c with
        | none =>
          refine absurd ?_ hj
          simp only [Wr.app, hc]
          cases (Wf j).dst <;> exact h0
        | some c =>
          obtain ⟨d1, q1⟩ := c
          have key : ∀ (C : List Nat) (s : RS), (foldW Wf C s).G.getD t none = some (d, q, g) → (∀ k ∈ C, ¬((Wf k).dst = some t ∧ (Wf k).c = some (d, q))) → ∃ g', s.G.getD t none = some (d, q, g') := by
            intro C
            induction C with
            | nil => intro s h _; exact ⟨g, h⟩
            | cons k C ih =>
              intro s h hno
              obtain ⟨g', hg'⟩ := ih _ h (fun k hk => hno k (by simp [hk]))
              by_cases e : (Wf k).dst = some t
              · cases hck : (Wf k).c with
                | none =>
                  refine ⟨g', ?_⟩
                  rw [← hg']
                  simp only [Wr.app, hck]
                  cases (Wf k).dst <;> rfl
                | some ck =>
                  obtain ⟨d2, q2⟩ := ck
                  have e2 : ((Wf k).app s).G.getD t none = (addTag s.G (some t) (some (d2, q2)) (Wf k).g).getD t none := by simp only [Wr.app, e, hck]
                  rw [e2, addTag_same] at hg'
                  split at hg'
                  · simp only [Option.some.injEq, Prod.mk.injEq] at hg'
                    obtain ⟨rfl, rfl, _⟩ := hg'
                    exact absurd ⟨e, hck⟩ (hno k (by simp))
                  · cases hg'
              · exact ⟨g', by rw [← hg']; exact (addTag_other e).symm⟩
          obtain ⟨g', hg'⟩ := key C _ h (fun k hk hh => hex ⟨k, hk, hh⟩)
          have e2 : ((Wf j).app s).G.getD t none = (addTag s.G (some t) (some (d1, q1)) (Wf j).g).getD t none := by simp only [Wr.app, hd, hc]
          rw [e2, addTag_same] at hg'
          split at hg'
          · simp only [Option.some.injEq, Prod.mk.injEq] at hg'
            obtain ⟨rfl, rfl, _⟩ := hg'
            exact ⟨j, by simp, hd, hc⟩
          · cases hg'
theorem mg_val {t : Nat} {d off : Nat} : ∀ (C : List Nat) (s : RS), (foldW Wf C s).T.getD t .undef = .ptr (.tmp d) off → s.T.getD t .undef = .ptr (.tmp d) off ∨ ∃ j ∈ C, (Wf j).v = .ptr (.tmp d) off
  | [], s, h => .inl h
  | j :: C, s, h => by
    rcases mg_val C _ h with g | ⟨k, h1, h2⟩
    · by_cases e : (Wf j).dst = some t
      · have e2 : ((Wf j).app s).T.getD t .undef = (setDst s.T (some t) (Wf j).v).getD t .undef := by simp only [Wr.app, e]
        rw [e2, setDst_same] at g
        split at g
        · exact .inr ⟨j, by simp, g⟩
        · cases g
      · left
        rw [← g]
        exact (setDst_other e).symm
    · exact .inr ⟨k, by simp [h1], h2⟩

theorem sameV_eq {u v : AVal} (h : sameV u v = true) : u = v := by
  unfold sameV at h
  rcases Bool.or_eq_true_iff.1 h with h | h
  · split at h <;> simp_all
  · split at h
    · assumption
    · simp at h
theorem loadA_cong {B B' : Boxes} {H H' : Heap} {t : TypeId} {p : AVal} (h1 : ∀ x, resOf p = some x → B'.getD x [] = B.getD x []) (h2 : resOf p = none → H' = H) : loadA P B' H' t p = loadA P B H t p := by
  have hr : ∀ n, readCells B' H' p n = readCells B H p n := by
    intro n
    unfold readCells
    cases p <;> try rfl
    · rename_i q off
      cases q with
      | tmp x => simp only; rw [h1 x rfl]
      | hp k => rw [h2 rfl]
    · rw [h2 rfl]
  unfold loadA
  simp only [hr]
def compOf (p : AVal) : Comp := match resOf p with
  | some x => .B x
  | none => .H
theorem load_req {t : TypeId} {p : AVal} (h : REq (compOf p) s s') : loadA P s.B s.H t p = loadA P s'.B s'.H t p := by
  unfold compOf at h
  cases hp : resOf p with
  | none => rw [hp] at h; exact loadA_cong (fun x hx => by rw [hp] at hx; cases hx) (fun _ => h)
  | some x => rw [hp] at h; exact loadA_cong (fun y hy => by rw [hp] at hy; cases hy; exact h.2) (fun hh => by rw [hp] at hh; cases hh)
theorem rd_text (hr : OpRun P fh l i o s recs s') (hg : gvOf s (guardDst l o) = true) {t : TypeId} {p v : AVal} (hm : Rec.rd i t p v ∈ recs) : loadA P s.B s.H t p = some (true, v) := by
  cases hr with
  | void c v _ hgo hc hgv hpt => rw [hc, hgv] at hg; cases hg
  | run q hgo hgv htag hst hok hw =>
    unfold recOf at hm
    simp only [List.mem_append] at hm
    rcases hm with (((hm | hm) | hm) | hm) | hm
    · obtain ⟨dst, op, type, pos, after, guard⟩ := o
      cases op <;> simp at hm
      obtain ⟨rfl, rfl, rfl⟩ := hm
      simp only [stepOp] at hst
      obtain ⟨ok, u, h3, h4⟩ := val_some hst
      rw [h4] at hok ⊢
      simp only at hok ⊢
      rw [h3, hok]
    · split at hm <;> simp at hm
    · split at hm <;> simp at hm
    · unfold alOf at hm
      split at hm <;> simp at hm
    · unfold ptvOf at hm
      split at hm <;> simp at hm
  | call f args g caps v H1 hgo hgv htag hkind hf hn hcall hq hp =>
    unfold callRecs at hm
    simp only [List.mem_append] at hm
    rcases hm with hm | hm
    · split at hm
      · split at hm <;> simp at hm
      · simp at hm
    · unfold ptvOf at hm
      split at hm <;> simp at hm
  | dfr f args g caps hgo hc htag hkind hargs hf hn => simp at hm

theorem max_of {p : Nat → Prop} : ∀ (m : Nat), (∃ k, k < m ∧ p k) → ∃ k, k < m ∧ p k ∧ ∀ j, k < j → j < m → ¬ p j
  | 0, ⟨k, h, _⟩ => by omega
  | m + 1, ⟨k, h, hp⟩ => by
    by_cases hm : p m
    · exact ⟨m, by omega, hm, fun j h1 h2 => by omega⟩
    · have hk : k < m := by
        rcases Nat.lt_or_ge k m with g | g
        · exact g
        · have : k = m := by omega
          subst this; exact absurd hp hm
      obtain ⟨k', h1, h2, h3⟩ := max_of m ⟨k, hk, hp⟩
      refine ⟨k', by omega, h2, fun j g1 g2 => ?_⟩
      rcases Nat.lt_or_ge j m with g | g
      · exact h3 j g1 g
      · have : j = m := by omega
        subst this; exact hm
theorem min_of {p : Nat → Prop} : ∀ (m : Nat), p m → ∃ k, k ≤ m ∧ p k ∧ ∀ j, j < k → ¬ p j := by
  intro m
  induction m using Nat.strongRecOn with
  | _ m ih =>
    intro hp
    by_cases hex : ∃ j, j < m ∧ p j
    · obtain ⟨j, h1, h2⟩ := hex
      obtain ⟨k, g1, g2, g3⟩ := ih j h1 h2
      exact ⟨k, by omega, g2, g3⟩
    · exact ⟨m, Nat.le_refl _, hp, fun j hj hpj => hex ⟨j, hj, hpj⟩⟩

/-- writers of one box, or of the heap -/
theorem Tr.eff_of (tr : Tr P fh l b m S R Wf) {c : Comp} {x : Option Nat} (hc : c = (match x with | some d => .B d | none => .H)) {j : Nat} (hj : j < m) (hw : wrC c (Wf j) = true) : Rec.eff j x (S j).B (S j).H (S (j + 1)).B (S (j + 1)).H ∈ R j := by
  subst hc
  cases x with
  | none => exact tr.wh j hj hw
  | some d =>
    simp only [wrC] at hw
    cases hb : (Wf j).wb with
    | none => rw [hb] at hw; simp at hw
    | some y =>
      obtain ⟨d', c'⟩ := y
      rw [hb] at hw
      simp only [beq_iff_eq] at hw
      subst hw
      exact tr.wb j _ _ hj hb
theorem Tr.eff_cmp (tr : Tr P fh l b m S R Wf) {c : Comp} {x : Option Nat} (hc : c = (match x with | some d => .B d | none => .H)) {j k : Nat} (hj : j < m) (hk : k < m) (hne : j ≠ k) (hwj : wrC c (Wf j) = true) (hwk : wrC c (Wf k) = true) : cmpB b j k = true := by
  have ej := tr.eff_of hc hj hwj
  have ek := tr.eff_of hc hk hwk
  rcases Nat.lt_or_gt_of_ne hne with h | h
  · have := tr.pair j k h hk _ ej _ ek
    cases hcmp : cmpB b j k with
    | true => rfl
    | false => simp [pairOk, hcmp, hne] at this
  · have := tr.pair k j h hj _ ek _ ej
    rw [cmp_comm]
    cases hcmp : cmpB b k j with
    | true => rfl
    | false => simp [pairOk, hcmp, Ne.symm hne] at this
end Go.Mu
