/-
  Mu: a region's operations in any order that its edges allow: the numbers 'before'; the region.
-/
import Derived.Test.YtlbmedmddoljnaaDoorMuDraw2
set_option linter.unusedVariables false
set_option linter.unusedSimpArgs false
namespace Go.Mu
open Go
variable {P : Program} {h : Hd} {fh : FH} {l : List Oper} {b : Array Nat} {m : Nat} {S : Nat → RS} {R : Nat → List Rec} {Wf : Nat → Wr} {L : Nat → Bool} {s s' : RS} {o : Oper} {i : Nat} {recs : List Rec} {w w' : World} {a : Act} {E E' : Env} {H H' : Heap} {β β' : Nat → Option Nat} {st st' : St}

/- the numbers -/
def numOf (acc : Array Nat) (o : Oper) : Nat := o.after.foldl (fun s e => if Region.binds .any e then s ||| 2 ^ e.on ||| acc.getD e.on 0 else s) 0
def numsL : List Oper → Array Nat → Array Nat
  | [], acc => acc
  | o :: rest, acc => numsL rest (acc.push (numOf acc o))
theorem before_eq (ops : Array Oper) : Region.before ops = numsL ops.toList #[] := by
  unfold Region.before
  rw [← Array.foldl_toList]
  have : ∀ (l : List Oper) (acc : Array Nat), l.foldl (fun acc o => acc.push (o.after.foldl (fun s e => if Region.binds .any e then s ||| 2 ^ e.on ||| acc.getD e.on 0 else s) 0)) acc = numsL l acc := by
    intro l
    induction l with
    | nil => intro acc; rfl
    | cons o l ih => intro acc; exact ih _
  exact this _ _
theorem num_bit (acc : Array Nat) (o : Oper) (i : Nat) (hb : (numOf acc o).testBit i = true) : ∃ e ∈ o.after, Region.binds .any e = true ∧ (e.on = i ∨ (acc.getD e.on 0).testBit i = true) := by
  unfold numOf at hb
  rw [← Array.foldl_toList] at hb
  have : ∀ (es : List Edge) (s : Nat), (es.foldl (fun s e => if Region.binds .any e then s ||| 2 ^ e.on ||| acc.getD e.on 0 else s) s).testBit i = true → s.testBit i = true ∨ ∃ e ∈ es, Region.binds .any e = true ∧ (e.on = i ∨ (acc.getD e.on 0).testBit i = true) := by
    intro es
    induction es with
    | nil => intro s h; exact .inl h
    | cons e es ih =>
      intro s h
      rcases ih _ h with g | ⟨e', h1, h2⟩
      · simp only at g
        split at g
        · rename_i hbind
          rw [Nat.testBit_or, Nat.testBit_or, Bool.or_eq_true, Bool.or_eq_true] at g
          rcases g with (g | g) | g
          · exact .inl g
          · rw [Nat.testBit_two_pow] at g
            exact .inr ⟨e, by simp, hbind, .inl (by simpa using g)⟩
          · exact .inr ⟨e, by simp, hbind, .inr g⟩
        · exact .inl g
      · exact .inr ⟨e', by simp [h1], h2⟩
  rcases this _ _ hb with g | ⟨e, h1, h2⟩
  · simp at g
  · exact ⟨e, by simpa using h1, h2⟩
theorem nums_get : ∀ (l : List Oper) (acc : Array Nat), (∀ j, j < acc.size → (numsL l acc).getD j 0 = acc.getD j 0) ∧ (numsL l acc).size = acc.size + l.length
  | [], acc => ⟨fun _ _ => rfl, rfl⟩
  | o :: l, acc => by
    have ih := nums_get l (acc.push (numOf acc o))
    refine ⟨fun j hj => ?_, by rw [show numsL (o :: l) acc = numsL l (acc.push (numOf acc o)) from rfl, ih.2]; simp; omega⟩
    rw [show numsL (o :: l) acc = numsL l (acc.push (numOf acc o)) from rfl, ih.1 j (by simp; omega)]
    simp [Array.getD_eq_getD_getElem?, Array.getElem?_push, Nat.ne_of_lt hj]
theorem nums_num : ∀ (l : List Oper) (acc : Array Nat) (k : Nat) (o : Oper), l[k]? = some o → ∃ acc', (numsL l acc).getD (acc.size + k) 0 = numOf acc' o ∧ ∀ j, j < acc.size + k → acc'.getD j 0 = (numsL l acc).getD j 0
  | [], acc, k, o, h => by simp at h
  | p :: l, acc, 0, o, h => by
    simp at h; subst h
    have g := nums_get l (acc.push (numOf acc p))
    refine ⟨acc, ?_, fun j hj => ?_⟩
    · rw [show numsL (p :: l) acc = numsL l (acc.push (numOf acc p)) from rfl, g.1 _ (by simp)]
      simp [Array.getD_eq_getD_getElem?]
    · rw [show numsL (p :: l) acc = numsL l (acc.push (numOf acc p)) from rfl, g.1 j (by simp; omega)]
      simp at hj
      simp [Array.getD_eq_getD_getElem?, Array.getElem?_push, Nat.ne_of_lt hj]
  | p :: l, acc, k + 1, o, h => by
    obtain ⟨acc', h1, h2⟩ := nums_num l (acc.push (numOf acc p)) k o (by simpa using h)
    rw [Array.size_push] at h1 h2
    exact ⟨acc', by rw [show numsL (p :: l) acc = numsL l (acc.push (numOf acc p)) from rfl, ← h1]; congr 1; omega, fun j hj => h2 j (by omega)⟩
/-- what stands ahead of an operation stands behind one of its edges -/
theorem bit_edge (hed : edgesDown l = true) {j : Nat} (ho : l[j]? = some o) {i : Nat} (hb : ((Region.before l.toArray).getD j 0).testBit i = true) :
    ∃ e ∈ o.after, Region.binds .any e = true ∧ e.on < j ∧ (e.on = i ∨ ((Region.before l.toArray).getD e.on 0).testBit i = true) := by
  rw [before_eq] at hb ⊢
  obtain ⟨acc', h1, h2⟩ := nums_num l #[] j o ho
  simp only [Array.size_empty, Nat.zero_add] at h1 h2
  rw [h1] at hb
  obtain ⟨e, he, hbind, hh⟩ := num_bit acc' o i hb
  have hlt : e.on < j := by
    unfold edgesDown at hed
    simp only [List.all_eq_true] at hed
    have hm : (o, j) ∈ l.zipIdx := by rw [List.mem_zipIdx_iff_getElem?]; exact ho
    have := hed _ hm e (by simpa using he)
    simpa [hbind] using this
  refine ⟨e, he, hbind, hlt, hh.imp id (fun g => ?_)⟩
  rw [h2 e.on hlt] at g; exact g
theorem bit_out {j i : Nat} (hj : l.length ≤ j) : ((Region.before l.toArray).getD j 0).testBit i = false := by
  rw [before_eq]
  have := (nums_get l #[]).2
  rw [Array.getD_eq_getD_getElem?, Array.getElem?_eq_none (by simp at this; simp [this]; omega)]
  simp

/- what is listed -/
def Closed (l : List Oper) (L : Nat → Bool) : Prop := ∀ j o, l[j]? = some o → L j = true → ∀ e ∈ o.after, Region.binds .any e = true → L e.on = true
theorem bit_listed (hed : edgesDown l = true) (hc : Closed l L) : ∀ (j i : Nat), ((Region.before l.toArray).getD j 0).testBit i = true → (∀ o, l[j]? = some o → ∀ e ∈ o.after, Region.binds .any e = true → L e.on = true) → L i = true := by
  intro j
  induction j using Nat.strongRecOn with
  | _ j ih =>
    intro i hb hl
    rcases Nat.lt_or_ge j l.length with g | g
    · obtain ⟨e, he, hbind, hlt, hh⟩ := bit_edge hed (List.getElem?_eq_getElem g) hb
      have hon := hl _ (List.getElem?_eq_getElem g) e he hbind
      rcases hh with hh | hh
      · rw [← hh]; exact hon
      · exact ih e.on hlt i hh (fun o ho e' he' hb' => hc e.on o ho hon e' he' hb')
    · rw [bit_out g] at hb; cases hb
theorem closed_down (hed : edgesDown l = true) (hc : Closed l L) : Down (Region.before l.toArray) L := fun i j _ hb hL =>
  bit_listed hed hc j i hb (fun o ho e he hbind => hc j o ho hL e he hbind)
theorem ready_of (hed : edgesDown l = true) (hc : Closed l L) (hno : L i = false) (hall : ∀ o, l[i]? = some o → ∀ e ∈ o.after, Region.binds .any e = true → L e.on = true) : Ready (Region.before l.toArray) L i :=
  ⟨hno, fun k _ hb => bit_listed hed hc i k hb hall⟩
theorem closed_add (hc : Closed l L) (hall : ∀ o, l[i]? = some o → ∀ e ∈ o.after, Region.binds .any e = true → L e.on = true) : Closed l (fun j => j == i || L j) := by
  intro j o ho hL e he hb
  simp only [Bool.or_eq_true, beq_iff_eq] at hL ⊢
  rcases hL with rfl | hL
  · exact .inr (hall o ho e he hb)
  · exact .inr (hc j o ho hL e he hb)
def ofList (listed : Array Bool) : Nat → Bool := fun j => listed.getD j false
theorem ofList_add {listed : Array Bool} (hi : i < listed.size) : ofList (listed.setIfInBounds i true) = fun j => j == i || ofList listed j := by
  funext j
  simp only [ofList, Array.getD_eq_getD_getElem?]
  by_cases e : j = i
  · subst e; simp [hi]
  · rw [Array.getElem?_setIfInBounds_ne (Ne.symm e)]
    simp [e]
theorem count_add {n : Nat} (hi : i < n) (hL : L i = false) : ((List.range n).filter (fun j => !L j)).length = ((List.range n).filter (fun j => !(j == i || L j))).length + 1 := by
  have hr : List.range n = List.range i ++ i :: (List.range' (i + 1) (n - i - 1)) := by
    rw [List.range_eq_range', List.range_eq_range']
    have e : n = i + (1 + (n - i - 1)) := by omega
    conv => lhs; rw [e, ← List.range'_append_1, ← List.range'_append_1]
    simp [Nat.add_comm]
  have f1 : (List.range i).filter (fun j => !(j == i || L j)) = (List.range i).filter (fun j => !L j) := by
    apply List.filter_congr
    intro j hj
    have : j ≠ i := by have := List.mem_range.1 hj; omega
    simp [this]
  have f2 : (List.range' (i + 1) (n - i - 1)).filter (fun j => !(j == i || L j)) = (List.range' (i + 1) (n - i - 1)).filter (fun j => !L j) := by
    apply List.filter_congr
    intro j hj
    have : j ≠ i := by have := List.mem_range'_1.1 hj; omega
    simp [this]
  rw [hr, List.filter_append, List.filter_append, List.filter_cons_of_pos (by simp [hL]), List.filter_cons_of_neg (by simp), f1, f2]
  simp only [List.length_append, List.length_cons]
  omega
end Go.Mu
