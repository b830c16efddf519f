/-
  Mu: a region's operations in any order that its edges allow: each fits.
-/
import Derived.Test.YtlbmedmddoljnaaDoorMuDraw
set_option linter.unusedVariables false
set_option linter.unusedSimpArgs false
namespace Go.Mu
open Go
variable {P : Program} {fh : FH} {l : List Oper} {b : Array Nat} {m : Nat} {S : Nat → RS} {R : Nat → List Rec} {Wf : Nat → Wr} {L : Nat → Bool} {s s' : RS} {o : Oper} {i : Nat} {recs : List Rec}

/-- the state after the operations of L -/
abbrev at' (Wf : Nat → Wr) (m : Nat) (S : Nat → RS) (L : Nat → Bool) : RS := mg Wf m (S 0) L

theorem op_at (tr : Tr P fh l b m S R Wf) {j : Nat} (hj : j < m) : ∃ o, l[j]? = some o := ⟨l[j]'(Nat.lt_of_lt_of_le hj tr.le), List.getElem?_eq_getElem _⟩
theorem names_req (tr : Tr P fh l b m S R Wf) (hn : namesOk l b = true) (hd : Down b L) (hr : Ready b L i) (him : i ≤ m) (ho : l[i]? = some o) {t : Nat} (ht : t ∈ namesOf l o) :
    (at' Wf m S L).T.getD t .undef = (S i).T.getD t .undef ∧ (at' Wf m S L).G.getD t none = (S i).G.getD t none := by
  have key : ∀ j, j < m → (Wf j).dst = some t → L j = decide (j < i) := fun j hj hw => by
    by_cases e : j = i
    · subst e; rw [hr.no]; simp
    · obtain ⟨oj, hoj⟩ := op_at tr hj
      exact cmp_iff hd hr e (by rw [cmp_comm]; exact names_cmp hn hoj ho e (by rw [← (tr.dst j oj hj hoj).1]; exact hw) ht)
  exact ⟨(tr.agree (c := .T t) him (fun j hj hw => key j hj (by simpa [wrC] using hw))).2, (tr.agree (c := .G t) him (fun j hj hw => key j hj (by simp only [wrC, Bool.and_eq_true, beq_iff_eq] at hw; exact hw.1))).2⟩
theorem heap_req (tr : Tr P fh l b m S R Wf) (hd : Down b L) (hr : Ready b L i) (him : i ≤ m) (h : ∀ j, j < m → j ≠ i → wrC .H (Wf j) = true → cmpB b i j = true) : (at' Wf m S L).H = (S i).H :=
  tr.agree (c := .H) him (fun j hj hw => by
    by_cases e : j = i
    · subst e; rw [hr.no]; simp
    · exact cmp_iff hd hr e (h j hj e hw))
theorem free_req (tr : Tr P fh l b m S R Wf) (hG : ∀ t, (S 0).G.getD t none = none) (hn : namesOk l b = true) (hgs : guardsOk l = true) (hd : Down b L) (hr : Ready b L i) (him : i ≤ m) (ho : l[i]? = some o) (hf : freeDst (S i).G o.dst = true) :
    freeDst (at' Wf m S L).G o.dst = true := by
  cases hdst : o.dst with
  | none => rfl
  | some d =>
    rw [hdst] at hf
    have hm : d ∈ namesOf l o := by unfold namesOf; rw [hdst]; simp
    have h2 := (names_req tr hn hd hr him ho hm).2
    have h3 := free_none hf
    simp only [freeDst, Bool.and_eq_true, List.all_eq_true]
    refine ⟨fun x hx => ?_, by rw [h2, h3]; rfl⟩
    cases x with
    | none => rfl
    | some y =>
      obtain ⟨e, q, g⟩ := y
      simp only [bne_iff_ne, ne_eq]
      intro he; subst he
      obtain ⟨t, ht⟩ := List.mem_iff_getElem?.1 hx
      have hg : (at' Wf m S L).G.getD t none = some (e, q, g) := by rw [List.getD_eq_getElem?_getD, ht]; rfl
      obtain ⟨j, hj, hj2, hj3⟩ := mg_tag hG _ _ hg (hG t)
      obtain ⟨hjr, hjL⟩ := List.mem_filter.1 hj
      have hjm := List.mem_range.1 hjr
      obtain ⟨oj, hoj⟩ := op_at tr hjm
      have hgd : guardDst l oj = some (e, q) := by rw [← (tr.dst j oj hjm hoj).2]; exact hj3
      have hlt := guards_lt hgs ho hoj hdst hgd
      have hc := names_cmp hn ho hoj (by omega) hdst (guard_names hgd)
      unfold cmpB at hc
      rw [if_pos hlt] at hc
      have := hd i j hlt hc hjL
      rw [hr.no] at this; cases this

theorem al_rec (hr : OpRun P fh l i o s recs s') {d : Nat} (hm : Rec.al i d ∈ recs) (hg : gvOf s (guardDst l o) = true) : isAl o = true ∧ o.dst = some d := by
  cases hr with
  | void c v _ hgo hc hgv hpt => rw [hc, hgv] at hg; cases hg
  | run q hgo hgv htag hst hok hw =>
    unfold recOf at hm
    simp only [List.mem_append] at hm
    rcases hm with (((hm | hm) | hm) | hm) | hm
    · split at hm <;> simp at hm
    · split at hm <;> simp at hm
    · split at hm <;> simp at hm
    · unfold alOf at hm
      split at hm
      · rename_i t d' he hw'
        simp at hm; subst hm
        refine ⟨by unfold isAl; rw [he], ?_⟩
        unfold writes at hw'
        rw [he] at hw'
        simp only at hw'
        split at hw' <;> simp at hw'
        exact hw'
      · rename_i t x d' he hw'
        simp at hm; subst hm
        refine ⟨by unfold isAl; rw [he], ?_⟩
        unfold writes at hw'
        rw [he] at hw'
        simp only at hw'
        split at hw' <;> simp at hw'
        exact hw'
      · simp at hm
    · unfold ptvOf at hm
      split at hm <;> simp at hm
  | call f args g caps v H1 hgo hgv htag hkind hf hn hcall hq hp =>
    unfold callRecs at hm
    simp only [List.mem_append] at hm
    rcases hm with hm | hm
    · split at hm
      · split at hm <;> simp at hm
      · simp at hm
    · unfold ptvOf at hm
      split at hm <;> simp at hm
  | dfr f args g caps hgo hc htag hkind hargs hf hn => simp at hm
theorem OpRun.go (h : OpRun P fh l i o s recs s') : guardGo l s o := by cases h <;> assumption
theorem reread_ok {B B' : Boxes} {H H' : Heap} {t : TypeId} {p v : AVal} (h : reread P B H t p v = true) (ht : loadA P B' H' t p = some (true, v)) : loadA P B H t p = some (true, v) := by
  unfold reread at h
  split at h
  · rw [← ht]; rfl
  · split at h
    · rename_i ok u hl
      simp only [Bool.and_eq_true] at h
      rw [hl, h.1, sameV_eq h.2]
    · simp at h
theorem fits (tr : Tr P fh l b m S R Wf) (hG : ∀ t, (S 0).G.getD t none = none) (hA : ∀ o ∈ l, isAl o = true → (S 0).T.any (pointsTo (o.dst.getD 0)) = false) (hn : namesOk l b = true) (hgs : guardsOk l = true) (hd : Down b L) (hr : Ready b L i) (him : i < m) (ho : l[i]? = some o)
    : Fits P l i o (S i) (R i) (at' Wf m S L) := by
  have hrun := tr.run i o him ho
  have hgo : guardGo l (S i) o := hrun.go
  have lens : (at' Wf m S L).B.length = (S i).B.length := by
    rw [tr.text i (by omega)]; exact (mg_len (L := L)).2.2.trans (mg_len).2.2.symm
  have pairH : ∀ (x : Rec), x ∈ R i → (∀ (b' : Array Nat) j B0 H0 B1 H1, j ≠ i → (pairOk P b' x (.eff j none B0 H0 B1 H1) = true → cmpB b' i j = true) ∧ (pairOk P b' (.eff j none B0 H0 B1 H1) x = true → cmpB b' j i = true)) → (at' Wf m S L).H = (S i).H := fun x hx hp =>
    heap_req tr hd hr (by omega) (fun j hj hne hw => by
      have hm := tr.eff_of (c := .H) (x := none) rfl hj hw
      rcases Nat.lt_or_gt_of_ne hne with h | h
      · rw [cmp_comm]; exact (hp b j _ _ _ _ hne).2 (tr.pair j i h him _ hm _ hx)
      · exact (hp b j _ _ _ _ hne).1 (tr.pair i j h hj _ hx _ hm))
  refine ⟨lens, fun t ht => names_req tr hn hd hr (by omega) ho ht, free_req tr hG hn hgs hd hr (by omega) ho hgo.2.1, fun hu => ?_, fun B0 H0 B1 H1 he => ?_, fun d B0 H0 B1 H1 he => ?_, fun hgv d hal' => ?_, fun hgv t p v hrd => ?_⟩
  · refine pairH _ hu (fun b' j B0 H0 B1 H1 hne => ⟨fun hp => ?_, fun hp => ?_⟩)
    · simpa [pairOk, Ne.symm hne] using hp
    · simpa [pairOk, hne] using hp
  · refine pairH _ he (fun b' j B0 H0 B1 H1 hne => ⟨fun hp => ?_, fun hp => ?_⟩)
    · simpa [pairOk, Ne.symm hne] using hp
    · simpa [pairOk, hne] using hp
  · refine (tr.agree (c := .B d) (k := i) (by omega) (fun j hj hw => ?_)).2
    by_cases e : j = i
    · subst e; rw [hr.no]; simp
    · have hm := tr.eff_of (c := .B d) (x := some d) rfl hj hw
      refine cmp_iff hd hr e ?_
      rcases Nat.lt_or_gt_of_ne e with h | h
      · rw [cmp_comm]
        have := tr.pair j i h him _ hm _ he
        simpa [pairOk, e] using this
      · have := tr.pair i j h hj _ he _ hm
        simpa [pairOk, Ne.symm e] using this
  · rw [List.any_eq_false]
    intro v hv hp
    obtain ⟨t, ht⟩ := List.mem_iff_getElem?.1 hv
    have hpv : ∃ off, v = .ptr (.tmp d) off := by
      unfold pointsTo at hp
      split at hp
      · rename_i t' off
        simp only [beq_iff_eq] at hp; subst hp; exact ⟨off, rfl⟩
      · simp at hp
    obtain ⟨off, rfl⟩ := hpv
    have hg : (at' Wf m S L).T.getD t .undef = .ptr (.tmp d) off := by rw [List.getD_eq_getElem?_getD, ht]; rfl
    rcases mg_val _ _ hg with h0 | ⟨j, hj, hjv⟩
    · obtain ⟨ha1, ha2⟩ := al_rec hrun hal' hgv
      have := hA o (List.mem_of_getElem? ho) ha1
      rw [ha2] at this
      rw [List.any_eq_false] at this
      have hm : AVal.ptr (.tmp d) off ∈ (S 0).T := by
        rw [List.getD_eq_getElem?_getD] at h0
        cases hh : (S 0).T[t]? with
        | none => rw [hh] at h0; cases h0
        | some z => rw [hh] at h0; simp at h0; subst h0; exact List.mem_of_getElem? hh
      exact this _ hm (by simp [pointsTo])
    · obtain ⟨hjr, hjL⟩ := List.mem_filter.1 hj
      have hjm := List.mem_range.1 hjr
      have hne : j ≠ i := fun e => by subst e; rw [hr.no] at hjL; cases hjL
      have hm := tr.ptv j d off hjm hjv
      rcases Nat.lt_or_gt_of_ne hne with h | h
      · have := tr.pair j i h him _ hm _ hal'
        simp [pairOk, hne] at this
      · have := tr.pair i j h hjm _ hal' _ hm
        have hc : cmpB b i j = true := by simpa [pairOk, Ne.symm hne] using this
        have := cmp_iff hd hr hne hc
        rw [hjL] at this
        simp at this; omega
  · -- a load
    have htext := rd_text hrun hgv hrd
    have hcx : compOf p = (match resOf p with | some d => .B d | none => .H) := rfl
    by_cases hex : ∃ k, k < m ∧ (i < k ∧ L k = true ∧ wrC (compOf p) (Wf k) = true)
    · obtain ⟨k, hk, ⟨k1, k2, k3⟩, kmax⟩ := max_of m hex
      have hm := tr.eff_of hcx hk k3
      have hreq : REq (compOf p) (at' Wf m S L) (S (k + 1)) := tr.agree (k := k + 1) (by omega) (fun j hj hw => by
        rcases Nat.lt_trichotomy j k with h | h | h
        · have hc := tr.eff_cmp hcx hj hk (by omega) hw k3
          unfold cmpB at hc
          rw [if_pos h] at hc
          rw [hd j k h hc k2, decide_eq_true (by omega)]
        · subst h; rw [k2, decide_eq_true (by omega)]
        · rw [decide_eq_false (by omega)]
          cases hL : L j with
          | false => rfl
          | true => exact absurd ⟨by omega, hL, hw⟩ (kmax j h hj))
      rw [load_req hreq]
      have hp := tr.pair i k k1 hk _ hrd _ hm
      simp only [pairOk, Bool.or_eq_true, bne_iff_ne, ne_eq, not_true, or_false] at hp
      have hnc : cmpB b i k = false := by
        cases hc : cmpB b i k with
        | false => rfl
        | true =>
          have := cmp_iff hd hr (j := k) (by omega) hc
          rw [k2] at this; simp at this; omega
      rw [hnc] at hp
      have hre : reread P (S (k + 1)).B (S (k + 1)).H t p v = true := by simpa using hp
      exact reread_ok hre htext
    · have hno : ∀ j, j < m → i < j → wrC (compOf p) (Wf j) = true → L j = false := fun j h1 h2 h3 => by
        cases hL : L j with
        | false => rfl
        | true => exact absurd ⟨j, h1, h2, hL, h3⟩ hex
      by_cases hex2 : ∃ k, k < i ∧ L k = false ∧ wrC (compOf p) (Wf k) = true
      · obtain ⟨k0, q1, q2, q3⟩ := hex2
        obtain ⟨k, hk0, ⟨g0, g1, g2⟩, gmin⟩ := min_of (p := fun k => k < i ∧ L k = false ∧ wrC (compOf p) (Wf k) = true) k0 ⟨q1, q2, q3⟩
        have hk : k < m := by omega
        have hm := tr.eff_of hcx hk g2
        have hreq : REq (compOf p) (at' Wf m S L) (S k) := tr.agree (k := k) (by omega) (fun j hj hw => by
          rcases Nat.lt_trichotomy j k with h | h | h
          · rw [decide_eq_true h]
            cases hL : L j with
            | true => rfl
            | false => exact (gmin j h ⟨Nat.lt_trans h g0, hL, hw⟩).elim
          · subst h; rw [g1]; simp
          · rw [decide_eq_false (by omega)]
            have hc := tr.eff_cmp hcx hk hj (by omega) g2 hw
            unfold cmpB at hc
            rw [if_pos h] at hc
            cases hL : L j with
            | false => rfl
            | true => have := hd k j h hc hL; rw [g1] at this; cases this)
        rw [load_req hreq]
        have hp := tr.pair k i g0 him _ hm _ hrd
        simp only [pairOk, Bool.or_eq_true, bne_iff_ne, ne_eq, not_true, or_false] at hp
        have hnc : cmpB b k i = false := by
          cases hc : cmpB b k i with
          | false => rfl
          | true =>
            have := cmp_iff hd hr (j := k) (by omega) (by rw [cmp_comm]; exact hc)
            rw [g1] at this; simp at this; omega
        rw [hnc] at hp
        have hre : reread P (S k).B (S k).H t p v = true := by simpa using hp
        exact reread_ok hre htext
      · have hreq : REq (compOf p) (at' Wf m S L) (S i) := tr.agree (k := i) (by omega) (fun j hj hw => by
          rcases Nat.lt_trichotomy j i with h | h | h
          · rw [decide_eq_true h]
            cases hL : L j with
            | true => rfl
            | false => exact absurd ⟨j, h, hL, hw⟩ hex2
          · subst h; rw [hr.no]; simp
          · rw [decide_eq_false (by omega)]; exact hno j hj h hw)
        rw [load_req hreq]; exact htext
end Go.Mu
