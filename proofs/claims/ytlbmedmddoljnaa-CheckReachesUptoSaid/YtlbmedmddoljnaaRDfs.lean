/-
  What comes of calls: a search in depth, plain.
-/
import Init
set_option linter.unusedVariables false
set_option linter.unusedSimpArgs false
set_option linter.unusedSectionVars false
namespace Go.Mu
section
variable {α : Type} [BEq α] [LawfulBEq α]
/-- what comes of a name, by fuel -/
def dfs (th : α → Bool) (cl : α → List α) : Nat → α → List α → List α
  | 0, _, o => o
  | n + 1, s, o => cond (th s && !o.contains s) ((cl s).foldl (fun o c => dfs th cl n c o) (o ++ [s])) o
def miss (u o : List α) : Nat := (u.filter (fun x => !o.contains x)).length
theorem miss_mono {o r : List α} (h : ∀ x ∈ o, x ∈ r) : ∀ u : List α, miss u r ≤ miss u o
  | [] => by simp [miss]
  | a :: u => by
    have ih := miss_mono h u
    unfold miss at ih ⊢
    simp only [List.filter_cons]
    by_cases ha : a ∈ o
    · have hr := h a ha
      simpa [ha, hr] using ih
    · by_cases hr : a ∈ r
      · simp [ha, hr] at ih ⊢; omega
      · simpa [ha, hr] using ih
theorem miss_lt {o : List α} {s : α} (ho : s ∉ o) : ∀ u : List α, s ∈ u → miss u (o ++ [s]) < miss u o
  | [], h => by cases h
  | a :: u, h => by
    have hm := miss_mono (o := o) (r := o ++ [s]) (fun x hx => List.mem_append_left _ hx) u
    have ih := miss_lt ho u
    unfold miss at ih hm ⊢
    simp only [List.filter_cons]
    by_cases hs : a = s
    · subst hs
      have h1 : (o ++ [a]).contains a = true := by simp
      have h2 : o.contains a = false := by simpa using ho
      rw [h1, h2]
      simp only [Bool.not_true, Bool.not_false, if_true, Bool.false_eq_true, if_false, List.length_cons]
      omega
    · have hu : s ∈ u := by
        rcases List.mem_cons.1 h with e | e
        · exact absurd e.symm hs
        · exact e
      have ih := ih hu
      have e : (o ++ [s]).contains a = o.contains a := by
        rw [Bool.eq_iff_iff]; simp [hs]
      rw [e]
      cases o.contains a <;> simp at ih ⊢ <;> omega
/-- what a search keeps -/
structure Kept (th : α → Bool) (cl : α → List α) (o r : List α) : Prop where
  pre : o <+: r
  nodup : o.Nodup → r.Nodup
  news : ∀ x ∈ r, x ∉ o → th x = true ∧ ∀ c ∈ cl x, th c = true → c ∈ r
theorem Kept.refl (th : α → Bool) (cl : α → List α) (o : List α) : Kept th cl o o := ⟨List.prefix_refl o, fun h => h, fun x h g => absurd h g⟩
theorem Kept.sub {th : α → Bool} {cl : α → List α} {o r : List α} (h : Kept th cl o r) : ∀ x ∈ o, x ∈ r := fun x hx => h.pre.subset hx
theorem Kept.trans {th : α → Bool} {cl : α → List α} {o r q : List α} (h : Kept th cl o r) (g : Kept th cl r q) : Kept th cl o q := by
  refine ⟨h.pre.trans g.pre, fun n => g.nodup (h.nodup n), fun x hx ho => ?_⟩
  by_cases hr : x ∈ r
  · obtain ⟨h1, h2⟩ := h.news x hr ho
    exact ⟨h1, fun c hc ht => g.sub c (h2 c hc ht)⟩
  · exact g.news x hx hr
theorem fold_kept {th : α → Bool} {cl : α → List α} {u : List α} {n : Nat} {step : List α → α → List α}
    (hs : ∀ s o, miss u o < n → Kept th cl o (step o s) ∧ (th s = true → s ∈ step o s)) : ∀ (l o : List α), miss u o < n → Kept th cl o (l.foldl step o) ∧ ∀ c ∈ l, th c = true → c ∈ l.foldl step o
  | [], o, _ => ⟨.refl _ _ _, fun c hc => by cases hc⟩
  | s :: l, o, hm => by
    obtain ⟨h1, h2⟩ := hs s o hm
    have hm' : miss u (step o s) < n := Nat.lt_of_le_of_lt (miss_mono h1.sub u) hm
    obtain ⟨g1, g2⟩ := fold_kept hs l (step o s) hm'
    refine ⟨h1.trans g1, fun c hc ht => ?_⟩
    rcases List.mem_cons.1 hc with e | e
    · subst e; exact g1.sub _ (h2 ht)
    · exact g2 c e ht
theorem dfs_kept {th : α → Bool} {cl : α → List α} {u : List α} (hu : ∀ x, th x = true → x ∈ u) : ∀ (n : Nat) (s : α) (o : List α), miss u o < n → Kept th cl o (dfs th cl n s o) ∧ (th s = true → s ∈ dfs th cl n s o)
  | 0, s, o, h => absurd h (Nat.not_lt_zero _)
  | n + 1, s, o, h => by
    unfold dfs
    cases ht : th s with
    | false => exact ⟨.refl _ _ _, fun h => by cases h⟩
    | true =>
      cases hc : o.contains s with
      | true => exact ⟨.refl _ _ _, fun _ => by simpa using hc⟩
      | false =>
        have ho : s ∉ o := by simpa using hc
        have hlt := miss_lt ho u (hu s ht)
        obtain ⟨g1, g2⟩ := fold_kept (fun s o hm => dfs_kept hu n s o hm) (cl s) (o ++ [s]) (by omega)
        simp only [Bool.not_false, Bool.and_self, cond_true]
        have hpre : o <+: (cl s).foldl (fun o c => dfs th cl n c o) (o ++ [s]) := (List.prefix_append o [s]).trans g1.pre
        refine ⟨⟨hpre, fun hn => g1.nodup ?_, fun x hx hxo => ?_⟩, fun _ => g1.sub s (by simp)⟩
        · rw [List.nodup_append]
          refine ⟨hn, by simp, fun a ha b hb => ?_⟩
          simp only [List.mem_singleton] at hb
          subst hb
          intro e; subst e; exact ho ha
        · by_cases e : x = s
          · subst e; exact ⟨ht, g2⟩
          · exact g1.news x hx (by simp [hxo, e])
theorem fold_len {th : α → Bool} {cl : α → List α} {u : List α} {n : Nat} {step : List α → α → List α}
    (hs : ∀ s o, miss u o < n → Kept th cl o (step o s) ∧ (step o s).length + miss u (step o s) ≤ o.length + miss u o) : ∀ (l o : List α), miss u o < n → (l.foldl step o).length + miss u (l.foldl step o) ≤ o.length + miss u o
  | [], o, hm => Nat.le_refl _
  | s :: l, o, hm => by
    obtain ⟨h1, h2⟩ := hs s o hm
    have hm' : miss u (step o s) < n := Nat.lt_of_le_of_lt (miss_mono h1.sub u) hm
    exact Nat.le_trans (fold_len hs l (step o s) hm') h2
theorem dfs_len {th : α → Bool} {cl : α → List α} {u : List α} (hu : ∀ x, th x = true → x ∈ u) : ∀ (n : Nat) (s : α) (o : List α), miss u o < n → (dfs th cl n s o).length + miss u (dfs th cl n s o) ≤ o.length + miss u o
  | 0, s, o, h => absurd h (Nat.not_lt_zero _)
  | n + 1, s, o, h => by
    unfold dfs
    cases ht : th s with
    | false => exact Nat.le_refl _
    | true =>
      cases hc : o.contains s with
      | true => exact Nat.le_refl _
      | false =>
        have ho : s ∉ o := by simpa using hc
        have hlt := miss_lt ho u (hu s ht)
        simp only [Bool.not_false, Bool.and_self, cond_true]
        have := fold_len (fun s o hm => ⟨(dfs_kept (cl := cl) hu n s o hm).1, dfs_len hu n s o hm⟩) (cl s) (o ++ [s]) (by omega)
        simp only [List.length_append, List.length_singleton] at this
        omega
/-- the page's law of it -/
theorem dfs_law {th : α → Bool} {cl : α → List α} {u : List α} (hu : ∀ x, th x = true → x ∈ u) {n : Nat} (hn : u.length < n) (s : α) :
    (dfs th cl n s []).Nodup ∧ (∀ x ∈ dfs th cl n s [], th x = true ∧ ∀ c ∈ cl x, th c = true → c ∈ dfs th cl n s []) ∧ (th s = true → (dfs th cl n s []).head? = some s) ∧ (th s = false → dfs th cl n s [] = []) := by
  have hm : miss u [] < n := by
    have : miss u [] ≤ u.length := List.length_filter_le _ _
    omega
  obtain ⟨h1, h2⟩ := dfs_kept hu n s [] hm
  refine ⟨h1.nodup List.nodup_nil, fun x hx => h1.news x hx (by simp), fun ht => ?_, fun ht => ?_⟩
  · cases n with
    | zero => omega
    | succ n =>
      have hlt := miss_lt (o := []) (s := s) (by simp) u (hu s ht)
      obtain ⟨g1, _⟩ := fold_kept (fun s o hm => dfs_kept (cl := cl) hu n s o hm) (cl s) [s] (by simp at hlt; omega)
      have e : dfs th cl (n + 1) s [] = (cl s).foldl (fun o c => dfs th cl n c o) [s] := by simp [dfs, ht]
      rw [e]
      obtain ⟨t, ht⟩ := g1.pre
      rw [← ht]; rfl
  · cases n with
    | zero => rfl
    | succ n => simp [dfs, ht]
end
end Go.Mu
