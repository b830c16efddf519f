/-
  Mu: a region whose order is drawn.
-/
import Derived.Test.YtlbmedmddoljnaaDoorMuDraw3
set_option linter.unusedVariables false
set_option linter.unusedSimpArgs false
namespace Go.Mu
open Go
variable {P : Program} {h : Hd} {fh : FH} {l : List Oper} {b : Array Nat} {m : Nat} {S : Nat → RS} {R : Nat → List Rec} {Wf : Nat → Wr} {L : Nat → Bool} {s s' : RS} {o : Oper} {i : Nat} {recs : List Rec} {w w' : World} {a : Act} {E E' : Env} {H H' : Heap} {β β' : Nat → Option Nat} {st st' : St}

/- the run in the order of the text, as a sequence -/
structure Seq (P : Program) (fh : FH) (l : List Oper) (b : Array Nat) (k m : Nat) (S : Nat → RS) (R : Nat → List Rec) (recs : List Rec) : Prop where
  run : ∀ i o, k ≤ i → i < m → l[i]? = some o → OpRun P fh l i o (S i) (R i) (S (i + 1))
  pair : ∀ i j, k ≤ i → i < j → j < m → ∀ x, x ∈ R i → ∀ y, y ∈ R j → pairOk P b x y = true
  mem : ∀ i, k ≤ i → i < m → ∀ x, x ∈ R i → x ∈ recs
theorem draw_app : ∀ (r2 r1 : List Rec), drawOk P b (r2 ++ r1) = true → drawOk P b r2 = true ∧ ∀ x ∈ r1, ∀ y ∈ r2, pairOk P b x y = true
  | [], r1, _ => ⟨rfl, fun x _ y hy => by simp at hy⟩
  | y :: r2, r1, hd => by
    simp only [List.cons_append, drawOk, Bool.and_eq_true, List.all_eq_true] at hd
    obtain ⟨⟨h1, h2⟩, h3⟩ := hd
    obtain ⟨g1, g2⟩ := draw_app r2 r1 h3
    refine ⟨?_, fun x hx z hz => ?_⟩
    · simp only [drawOk, Bool.and_eq_true, List.all_eq_true]
      exact ⟨⟨fun x hx => h1 x (by simp [hx]), h2⟩, g1⟩
    · rcases List.mem_cons.1 hz with rfl | hz
      · exact h1 x (by simp [hx])
      · exact g2 x hx z hz
theorem draw_bad : ∀ (r : List Rec), drawOk P b r = true → Rec.bad ∉ r
  | [], _ => by simp
  | y :: r, hd => by
    simp only [drawOk, Bool.and_eq_true] at hd
    have ih := draw_bad r hd.2
    intro hm
    rcases List.mem_cons.1 hm with e | hm
    · subst e; simp at hd
    · exact ih hm
theorem seq_cons {k : Nat} {r1 r2 : List Rec} {s s1 : RS} (h1 : OpRun P fh l k o s r1 s1) (ho : l[k]? = some o) (hkm : k < m) (sq : Seq P fh l b (k + 1) m S R r2) (hS : S (k + 1) = s1) (hp : ∀ x ∈ r1, ∀ y ∈ r2, pairOk P b x y = true) :
    Seq P fh l b k m (fun j => if j = k then s else S j) (fun j => if j = k then r1 else R j) (r2 ++ r1) := by
  refine ⟨fun i o' hk hm ho' => ?_, fun i j hk hij hj x hx y hy => ?_, fun i hk hm x hx => ?_⟩
  · by_cases e : i = k
    · subst e
      rw [ho] at ho'
      cases Option.some.inj ho'
      simp only [if_true, if_neg (show i + 1 ≠ i by omega)]
      rw [hS]; exact h1
    · simp only [if_neg e, if_neg (show i + 1 ≠ k by omega)]
      exact sq.run i o' (by omega) hm ho'
  · have ej : j ≠ k := by omega
    simp only [if_neg ej] at hy
    by_cases e : i = k
    · subst e
      simp only [if_true] at hx
      exact hp x hx y (sq.mem j (by omega) hj y hy)
    · simp only [if_neg e] at hx
      exact sq.pair i j (by omega) hij hj x hx y hy
  · by_cases e : i = k
    · subst e
      simp only [if_true] at hx
      simp [hx]
    · simp only [if_neg e] at hx
      exact List.mem_append_left _ (sq.mem i (by omega) hm x hx)
theorem seq_run : ∀ (rest : List Oper) (k : Nat) (s : RS) (recs : List Rec) (s' : RS), OpsRun P fh l rest k s recs s' → l.drop k = rest → drawOk P b recs = true → k ≤ l.length → ∃ S R, S k = s ∧ S l.length = s' ∧ Seq P fh l b k l.length S R recs
  | [], k, s, _, _, .nil _ _, hd, _, hk => by
    have : k = l.length := by
      have := List.drop_eq_nil_iff.1 hd; omega
    subst this
    exact ⟨fun _ => s, fun _ => [], rfl, rfl, ⟨fun i o h1 h2 => by omega, fun i j h1 h2 h3 => by omega, fun i h1 h2 => by omega⟩⟩
  | o :: rest, k, s, _, s', .cons (s1 := s1) (r1 := r1) (r2 := r2) h1 h2, hd, hdr, hk => by
    obtain ⟨g1, g2⟩ := drop_mem hd
    have hkl : k < l.length := (List.getElem?_eq_some_iff.1 g1).1
    obtain ⟨d1, d2⟩ := draw_app r2 r1 hdr
    obtain ⟨S, R, hS, hSn, sq⟩ := seq_run rest (k + 1) s1 r2 s' h2 g2 d1 (by omega)
    refine ⟨_, _, ?_, ?_, seq_cons h1 g1 hkl sq hS d2⟩
    · simp
    · rw [if_neg (by omega)]; exact hSn
theorem seq_pan : ∀ (rest : List Oper) (k : Nat) (s : RS) (m : Nat) (recs : List Rec) (p : AVal) (s' : RS), OpsPan P fh l rest k s m recs p s' → l.drop k = rest → drawOk P b recs = true →
    ∃ S R o, k ≤ m ∧ S k = s ∧ l[m]? = some o ∧ OpPan P fh l o (S m) p s' ∧ Seq P fh l b k m S R recs
  | [], k, s, _, _, _, _, h, _, _ => by cases h
  | o :: rest, k, s, _, _, p, s', .here h1, hd, hdr => by
    obtain ⟨g1, g2⟩ := drop_mem hd
    exact ⟨fun _ => s, fun _ => [], o, Nat.le_refl _, rfl, g1, h1, ⟨fun i o h1 h2 => by omega, fun i j h1 h2 h3 => by omega, fun i h1 h2 => by omega⟩⟩
  | o :: rest, k, s, m, _, p, s', .later (s1 := s1) (r1 := r1) (r2 := r2) h1 h2, hd, hdr => by
    obtain ⟨g1, g2⟩ := drop_mem hd
    obtain ⟨d1, d2⟩ := draw_app r2 r1 hdr
    obtain ⟨S, R, o', hkm, hS, ho', hpan, sq⟩ := seq_pan rest (k + 1) s1 m r2 p s' h2 g2 d1
    refine ⟨fun j => if j = k then s else S j, fun j => if j = k then r1 else R j, o', by omega, by simp, ho', ?_, seq_cons h1 g1 (by omega) sq hS d2⟩
    simp only [if_neg (show m ≠ k by omega)]
    exact hpan

theorem tr_of (sq : Seq P fh l b 0 m S R recs) (hle : m ≤ l.length) (hbad : Rec.bad ∉ recs) : ∃ Wf, Tr P fh l b m S R Wf := by
  have ex : ∀ i, ∃ W : Wr, ∀ (hi : i < m) (o : Oper), l[i]? = some o → S (i + 1) = W.app (S i) ∧ W.dst = o.dst ∧ W.c = guardDst l o ∧ (∀ d c, W.wb = some (d, c) → Rec.eff i (some d) (S i).B (S i).H (S (i + 1)).B (S (i + 1)).H ∈ R i) ∧
      (W.wh.isSome = true → Rec.eff i none (S i).B (S i).H (S (i + 1)).B (S (i + 1)).H ∈ R i) ∧ (∀ d off, W.v = .ptr (.tmp d) off → Rec.ptv i d ∈ R i) ∧ ∀ s2, Fits P l i o (S i) (R i) s2 → ∃ recs2, OpRun P fh l i o s2 recs2 (W.app s2) := by
    intro i
    by_cases hi : i < m
    · obtain ⟨W, hW⟩ := opRun_wr (sq.run i _ (by omega) hi (List.getElem?_eq_getElem (show i < l.length by omega))) (fun hb => hbad (sq.mem i (by omega) hi _ hb))
      refine ⟨W, fun _ o ho => ?_⟩
      rw [List.getElem?_eq_getElem (show i < l.length by omega)] at ho
      cases Option.some.inj ho
      exact hW
    · exact ⟨⟨none, .undef, none, true, none, none⟩, fun h => absurd h hi⟩
  obtain ⟨Wf, hWf⟩ := Classical.axiomOfChoice ex
  have hat : ∀ i, i < m → ∃ o, l[i]? = some o := fun i hi => ⟨_, List.getElem?_eq_getElem (show i < l.length by omega)⟩
  refine ⟨Wf, ⟨fun i o hi ho => sq.run i o (by omega) hi ho, fun i hi => ?_, fun i o hi ho => ?_, fun i d c hi => ?_, fun i hi => ?_, fun i d off hi => ?_, fun i o s2 hi ho => ?_, fun i j hij hj => sq.pair i j (by omega) hij hj, hle⟩⟩
  · obtain ⟨o, ho⟩ := hat i hi; exact (hWf i hi o ho).1
  · exact ⟨(hWf i hi o ho).2.1, (hWf i hi o ho).2.2.1⟩
  · obtain ⟨o, ho⟩ := hat i hi; exact (hWf i hi o ho).2.2.2.1 d c
  · obtain ⟨o, ho⟩ := hat i hi; exact (hWf i hi o ho).2.2.2.2.1
  · obtain ⟨o, ho⟩ := hat i hi; exact (hWf i hi o ho).2.2.2.2.2.1 d off
  · exact (hWf i hi o ho).2.2.2.2.2.2 s2

/-- the lasting facts of one drawn region -/
structure Drawn (P : Program) (fh : FH) (l : List Oper) (m : Nat) (S : Nat → RS) (R : Nat → List Rec) (Wf : Nat → Wr) : Prop where
  tr : Tr P fh l (Region.before l.toArray) m S R Wf
  names : namesOk l (Region.before l.toArray) = true
  edges : edgesDown l = true
  guards : guardsOk l = true
  G0 : ∀ t, (S 0).G.getD t none = none
  al : ∀ o ∈ l, isAl o = true → (S 0).T.any (pointsTo (o.dst.getD 0)) = false

end Go.Mu
