/-
  lex: the pieces of texts of one action, in plain lists.
-/
import Derived.Test.YtlbmedmddoljnaaDoorLItm
set_option linter.unusedVariables false
set_option linter.unusedSimpArgs false
set_option maxRecDepth 100000
namespace Go.Mu
open Go Go.Proofs
/-- has a text {{ ? -/
def opF : List UInt8 → Bool
  | c :: d :: t => (c == 123 && d == 123) || opF (d :: t)
  | _ => false
theorem opF_cons {c : UInt8} {t : List UInt8} (h : opF (c :: t) = false) : [123, 123].isPrefixOf (c :: t) = false ∧ opF t = false := by
  cases t with
  | nil => exact ⟨by simp [List.isPrefixOf], rfl⟩
  | cons d t =>
    rw [opF, Bool.or_eq_false_iff] at h
    refine ⟨?_, h.2⟩
    have h1 := h.1
    rw [Bool.eq_false_iff] at h1 ⊢
    intro h2
    simp only [List.isPrefixOf, Bool.and_eq_true, beq_iff_eq] at h2
    apply h1
    rw [← h2.1, ← h2.2.1]
    rfl
theorem index_cons (x : UInt8) (t p : List UInt8) : Lib.index (x :: t) p = if p.isPrefixOf (x :: t) then 0 else if Lib.index t p == -1 then -1 else Lib.index t p + 1 := rfl
theorem index_none : ∀ t : List UInt8, opF t = false → Lib.index t [123, 123] = -1
  | [], _ => rfl
  | c :: t, h => by
    obtain ⟨h1, h2⟩ := opF_cons h
    rw [index_cons, h1, if_neg (by simp), index_none t h2]
    rfl
theorem index_at : ∀ (a c : List UInt8), opF (a ++ [123]) = false → Lib.index (a ++ 123 :: 123 :: c) [123, 123] = a.length
  | [], c, h => by
    rw [List.nil_append, index_cons, if_pos (by simp [List.isPrefixOf])]
    rfl
  | x :: a, c, h => by
    rw [List.cons_append] at h
    obtain ⟨h1, h2⟩ := opF_cons (c := x) (t := a ++ [123]) h
    have h3 : [123, 123].isPrefixOf (x :: (a ++ 123 :: 123 :: c)) = false := by
      cases a with
      | nil => simpa [List.isPrefixOf] using h1
      | cons y a => simpa [List.isPrefixOf] using h1
    have ih := index_at a c h2
    rw [List.cons_append, index_cons, h3, if_neg (by simp), ih, if_neg (by simp)]
    simp
theorem index_rm : ∀ (r c : List UInt8), (∀ x ∈ r, x ≠ 42) → Lib.index (r ++ 42 :: 47 :: c) [42, 47] = r.length
  | [], c, h => by
    rw [List.nil_append, index_cons, if_pos (by simp [List.isPrefixOf])]
    rfl
  | x :: r, c, h => by
    have hx : x ≠ 42 := h x (by simp)
    have h3 : [42, 47].isPrefixOf (x :: (r ++ 42 :: 47 :: c)) = false := by
      simp [List.isPrefixOf, Ne.symm hx]
    have ih := index_rm r c (fun y hy => h y (by simp [hy]))
    rw [List.cons_append, index_cons, h3, if_neg (by simp), ih, if_neg (by simp)]
    simp
/-- kinds and texts -/
def pcs (x : SpH) : List (Int × List UInt8) := (rowsO x.O).map fun r => (intOf (r.getD 0 .undef), strOf (r.getD 1 .undef))
def finP (P : List (Int × List UInt8)) (t : List UInt8) : List (Int × List UInt8) := bif t == [] then P else P ++ [(1, t)]
abbrev kt (i : ItemD) : Int × List UInt8 := (i.kind, i.text)
theorem pcs_flush (x : SpH) : pcs (flushM x) = finP (pcs x) (bytesOf x.rows) := by
  unfold flushM pcs finP flN
  simp only [rowsO]
  cases bytesOf x.rows == []
  · simp only [cond_false, List.map_append]
    rfl
  · rfl
theorem items_pcs (s : List UInt8) : (itemsOf s).map kt = finP (pcs (relX (itY s))) (bytesOf (itY s).rows ++ putL s (itY s).tr (itR s).2.1 s.length) := by
  have h : (itemsOf s).map kt = pcs (flushM (itZ s)) := by unfold itemsOf pcs; rw [List.map_map]; rfl
  rw [h, pcs_flush, putM_t]
  rfl
theorem pcs_act {x : SpH} {n : Nat} (hR : rmIs x.s n = false) : pcs (actionM x n) = finP (pcs x) (bif trimsA (acIn x.s n) then trimR (bytesOf x.rows) else bytesOf x.rows) ++ [(2, trimL (trimR (trimsU (trimsT (acIn x.s n)))))] ∧ bytesOf (actionM x n).rows = [] := by
  have e : ∀ y : SpH, pcs (pushM (flushM y) [.int .i64 2, .str (trimL (trimR (trimsU (trimsT (acIn x.s n))))), .int .i64 n]) = finP (pcs y) (bytesOf y.rows) ++ [(2, trimL (trimR (trimsU (trimsT (acIn x.s n)))))] := fun y => by
    rw [← pcs_flush]
    unfold pcs pushM
    simp only [rowsO, List.map_append]
    rfl
  have e2 : pcs (actionM x n) = pcs (acM x n) := rfl
  have e3 : bytesOf (actionM x n).rows = bytesOf (acM x n).rows := rfl
  rw [e2, e3]
  unfold acM
  rw [hR, cond_false, e]
  refine ⟨?_, rfl⟩
  cases trimsA (acIn x.s n) with
  | true =>
    simp only [cond_true]
    rw [cutM_t]
    rfl
  | false => rfl
theorem pcs_rem {x : SpH} {n : Nat} (hR : rmIs x.s n = true) (hA : trimsA (acIn x.s n) = false) : pcs (actionM x n) = pcs x ∧ bytesOf (actionM x n).rows = bytesOf x.rows := by
  have e2 : pcs (actionM x n) = pcs (acM x n) := rfl
  have e3 : bytesOf (actionM x n).rows = bytesOf (acM x n).rows := rfl
  rw [e2, e3]
  unfold acM
  rw [hR, cond_true, hA]
  exact ⟨rfl, rfl⟩
theorem items_none (s : List UInt8) (h : opF s = false) : itBad s = false ∧ (itemsOf s).map kt = finP [] s := by
  have e : itR s = (itX0 s, 0, none) := by
    unfold itR
    rw [itM]
    have : itAt (itX0 s).s 0 < 0 := by
      show Lib.index (s.drop 0) _ < 0
      rw [List.drop_zero, index_none s h]
      decide
    rw [dT this]
    rfl
  refine ⟨by unfold itBad; rw [e]; rfl, ?_⟩
  rw [items_pcs, e]
  have : itY s = itX0 s := by unfold itY; rw [e]
  rw [this]
  show finP [] (bytesOf [] ++ (s.take s.length).drop 0) = _
  rw [List.take_length, List.drop_zero]
  rfl
/-- one action -/
theorem items_one {s a c : List UInt8} (hs : s = a ++ 123 :: 123 :: c) (ha : opF (a ++ [123]) = false) (hl : s.length ≤ 16384) (hb : acBad s a.length = false) {t : Nat} (ht : acTo s a.length = t) (hd : opF (s.drop (t + 2)) = false) :
    itBad s = false ∧ ∃ x : SpH, x.s = s ∧ pcs x = [] ∧ bytesOf x.rows = a ∧
      (itemsOf s).map kt = finP (pcs (actionM x a.length)) (bytesOf (actionM x a.length).rows ++ putL s (trimsZ (trimsT (acIn s a.length))) (t + 2) s.length) := by
  have h0 : itAt s 0 = a.length := by
    show Lib.index (s.drop 0) _ = _
    rw [List.drop_zero, hs, index_at a c ha]
  have hlen : s.length = a.length + (c.length + 2) := by rw [hs]; simp
  have e : itR s = (actionM (putM (relX (itX0 s)) 0 a.length) a.length, t + 2, none) := by
    unfold itR
    rw [itM]
    have e1 : ((((0 : Nat) : Int) + itAt (itX0 s).s 0)).toNat = a.length := by
      show (((0 : Nat) : Int) + itAt s 0).toNat = _
      rw [h0]; omega
    rw [dF (by show ¬ itAt s 0 < 0; rw [h0]; omega), cond_false, e1]
    rw [show acBad (itX0 s).s a.length = false from hb, cond_false]
    have e2 : (acTo (itX0 s).s a.length + 2).toNat = t + 2 := by
      show (acTo s a.length + 2).toNat = _
      rw [ht]; omega
    rw [e2]
    obtain ⟨m, hm⟩ : ∃ m, s.length = m + 1 := ⟨s.length - 1, by omega⟩
    rw [hm, itM]
    have : itAt (actionM (putM (relX (itX0 s)) 0 a.length) a.length).s (t + 2) < 0 := by
      show Lib.index (s.drop (t + 2)) _ < 0
      rw [index_none _ hd]
      decide
    rw [dT this]
    rfl
  have hi := inv0 s hl
  obtain ⟨h1, h2, h3, h4, h5, h6⟩ := hi
  have c1 : Can (putM (relX (itX0 s)) 0 a.length) := putM_can (x := relX (itX0 s)) h1 _ _
  have c2 : CanO (putM (relX (itX0 s)) 0 a.length).o (putM (relX (itX0 s)) 0 a.length).O := h2.1
  obtain ⟨a1, a2, a3, a4⟩ := acM_all c1 c2 a.length
  have ey : itY s = actionM (putM (relX (itX0 s)) 0 a.length) a.length := by
    unfold itY; rw [e]; rfl
  have b2 : CanO (itY s).o (itY s).O := by rw [ey]; exact a2
  refine ⟨by unfold itBad; rw [e]; rfl, putM (relX (itX0 s)) 0 a.length, rfl, rfl, ?_, ?_⟩
  · rw [putM_t]
    show bytesOf [] ++ (s.take a.length).drop 0 = a
    rw [hs]
    simp [bytesOf]
  · rw [items_pcs, canO_rel b2, e, ey]
    rfl
theorem mid_eq (a p q : List UInt8) : ((a ++ (p ++ q)).take (a.length + p.length)).drop a.length = p := by
  rw [List.take_append, List.take_of_length_le (by omega), Nat.add_sub_cancel_left, List.take_left, List.drop_left]
theorem end_eq (a p q : List UInt8) : ((a ++ (p ++ q)).take (a ++ (p ++ q)).length).drop (a.length + p.length) = q := by
  rw [List.take_length, ← List.append_assoc, ← List.length_append, List.drop_left]
/-- behind {{.}} -/
theorem items_dot (s : List UInt8) (h : opF s = false) (hl : s.length ≤ 8192) : itBad (123 :: 123 :: 46 :: 125 :: 125 :: s) = false ∧ (itemsOf (123 :: 123 :: 46 :: 125 :: 125 :: s)).map kt = finP [(2, [46])] s := by
  have hR : rmIs (123 :: 123 :: 46 :: 125 :: 125 :: s) 0 = false := by rfl
  have hF : acFrom (123 :: 123 :: 46 :: 125 :: 125 :: s) 0 = 2 := by unfold acFrom; rw [hR]; rfl
  have hT : acTo (123 :: 123 :: 46 :: 125 :: 125 :: s) 0 = ((3 : Nat) : Int) := by unfold acTo; rw [hF]; rfl
  have hI : acIn (123 :: 123 :: 46 :: 125 :: 125 :: s) 0 = [46] := by unfold acIn; rw [hT]; rfl
  have hb : acBad (123 :: 123 :: 46 :: 125 :: 125 :: s) 0 = false := by unfold acBad; rw [hR, hT]; rfl
  obtain ⟨k1, x, k2, k3, k4, k5⟩ := items_one (s := 123 :: 123 :: 46 :: 125 :: 125 :: s) (a := []) (c := 46 :: 125 :: 125 :: s) rfl rfl (by simp; omega) hb hT h
  refine ⟨k1, ?_⟩
  rw [k5]
  obtain ⟨p1, p2⟩ := pcs_act (x := x) (n := 0) (by rw [k2]; exact hR)
  show finP (pcs (actionM x 0)) (bytesOf (actionM x 0).rows ++ putL _ (trimsZ (trimsT (acIn (123 :: 123 :: 46 :: 125 :: 125 :: s) 0))) _ _) = _
  rw [p1, p2, k2, k3, k4, hI]
  show finP (finP [] [] ++ [(2, [46])]) ([] ++ ((123 :: 123 :: 46 :: 125 :: 125 :: s).take _).drop 5) = _
  rw [List.take_length]
  rfl
/-- an action that trims -/
theorem items_trim (a b : List UInt8) (ha : opF (a ++ [123]) = false) (h : opF b = false) (hl : a.length + b.length ≤ 8192) {s : List UInt8} (hs : s = a ++ 123 :: 123 :: 45 :: 32 :: 46 :: 120 :: 32 :: 45 :: 125 :: 125 :: b) :
    itBad s = false ∧ (itemsOf s).map kt = finP (finP [] (trimR a) ++ [(2, [46, 120])]) (trimL b) := by
  have e1 : s = (a ++ [123, 123]) ++ ([45, 32, 46, 120, 32, 45] ++ (125 :: 125 :: b)) := by rw [hs]; simp
  have e3 : s = (a ++ [123, 123]) ++ ([45, 32, 46, 120, 32, 45, 125, 125] ++ b) := by rw [hs]; simp
  have el : (a ++ [123, 123]).length = a.length + 2 := by simp
  have e2 : s.drop (a.length + 2) = 45 :: 32 :: 46 :: 120 :: 32 :: 45 :: 125 :: 125 :: b := by
    rw [e1, ← el, List.drop_left]; rfl
  have hR : rmIs s a.length = false := by unfold rmIs rmT; rw [e2]; rfl
  have hF : acFrom s a.length = a.length + 2 := by unfold acFrom; rw [hR]; rfl
  have hT : acTo s a.length = ((a.length + 8 : Nat) : Int) := by unfold acTo; rw [hF, e2]; rfl
  have hI : acIn s a.length = [45, 32, 46, 120, 32, 45] := by
    unfold acIn
    rw [hT, Int.toNat_natCast]
    have := mid_eq (a ++ [123, 123]) [45, 32, 46, 120, 32, 45] (125 :: 125 :: b)
    rw [← e1, el] at this
    exact this
  have hb : acBad s a.length = false := by unfold acBad; rw [hR, hT, Bool.false_and, Bool.false_or, dT (show ((a.length + 8 : Nat) : Int) ≥ 0 by omega)]; rfl
  have h8 := end_eq (a ++ [123, 123]) [45, 32, 46, 120, 32, 45, 125, 125] b
  rw [← e3, el] at h8
  have hd : s.drop (a.length + 8 + 2) = b := by rw [List.take_length] at h8; exact h8
  obtain ⟨k1, x, k2, k3, k4, k5⟩ := items_one hs ha (by rw [hs]; simp; omega) hb hT (by rw [hd]; exact h)
  refine ⟨k1, ?_⟩
  rw [k5]
  obtain ⟨p1, p2⟩ := pcs_act (x := x) (n := a.length) (by rw [k2]; exact hR)
  rw [p1, p2, k2, k3, k4, hI]
  show finP (finP [] (trimR a) ++ [(2, [46, 120])]) ([] ++ trimL ((s.take s.length).drop _)) = _
  rw [List.take_length, hd]
  rfl
/-- a remark -/
theorem items_rem (a r b : List UInt8) (ha : opF (a ++ [123]) = false) (hr : ∀ x ∈ r, x ≠ 42) (h : opF b = false) (hl : a.length + b.length + r.length ≤ 8192) {s : List UInt8} (hs : s = a ++ 123 :: 123 :: 47 :: 42 :: (r ++ 42 :: 47 :: 125 :: 125 :: b)) :
    itBad s = false ∧ (itemsOf s).map kt = finP [] (a ++ b) := by
  have e1 : s = (a ++ [123, 123]) ++ ((47 :: 42 :: (r ++ [42, 47])) ++ (125 :: 125 :: b)) := by rw [hs]; simp
  have e3 : s = (a ++ [123, 123]) ++ ((47 :: 42 :: (r ++ [42, 47, 125, 125])) ++ b) := by rw [hs]; simp
  have e4 : s = (a ++ [123, 123, 47, 42]) ++ (r ++ 42 :: 47 :: 125 :: 125 :: b) := by rw [hs]; simp
  have e5 : s = (a ++ [123, 123, 47, 42] ++ r ++ [42, 47]) ++ (125 :: 125 :: b) := by rw [hs]; simp
  have el : (a ++ [123, 123]).length = a.length + 2 := by simp
  have el4 : (a ++ [123, 123, 47, 42]).length = a.length + 4 := by simp
  have el5 : (a ++ [123, 123, 47, 42] ++ r ++ [42, 47]).length = a.length + 4 + r.length + 2 := by simp; omega
  have e2 : s.drop (a.length + 2) = 47 :: 42 :: (r ++ 42 :: 47 :: 125 :: 125 :: b) := by
    rw [hs, ← List.singleton_append, show a ++ ([123] ++ 123 :: 47 :: 42 :: (r ++ 42 :: 47 :: 125 :: 125 :: b)) = (a ++ [123, 123]) ++ 47 :: 42 :: (r ++ 42 :: 47 :: 125 :: 125 :: b) by simp, ← el, List.drop_left]
  have hmT : rmT s a.length = 47 :: 42 :: (r ++ 42 :: 47 :: 125 :: 125 :: b) := by unfold rmT; rw [e2]; rfl
  have hR : rmIs s a.length = true := by unfold rmIs; rw [hmT]; rfl
  have hmF : rmF s a.length = a.length + 4 := by
    unfold rmF
    rw [hmT, hs]
    simp only [List.length_append, List.length_cons]
    omega
  have hmN : rmN s a.length = r.length := by
    unfold rmN
    rw [hmF, e4, ← el4, List.drop_left, index_rm r _ hr]
  have hF : acFrom s a.length = a.length + 4 + r.length + 2 := by
    unfold acFrom
    rw [hR, hmF, hmN, cond_true]
    omega
  have hT : acTo s a.length = ((a.length + 4 + r.length + 2 : Nat) : Int) := by
    unfold acTo
    rw [hF, e5, ← el5, List.drop_left]
    rfl
  have hI : acIn s a.length = 47 :: 42 :: (r ++ [42, 47]) := by
    unfold acIn
    rw [hT, Int.toNat_natCast]
    have := mid_eq (a ++ [123, 123]) (47 :: 42 :: (r ++ [42, 47])) (125 :: 125 :: b)
    rw [← e1, el] at this
    rw [show a.length + 4 + r.length + 2 = a.length + 2 + (47 :: 42 :: (r ++ [42, 47])).length by simp; omega]
    exact this
  have hb : acBad s a.length = false := by unfold acBad; rw [hR, hT, hmN, dT (show (r.length : Int) ≥ 0 by omega), dT (by omega)]; rfl
  have h8 := end_eq (a ++ [123, 123]) (47 :: 42 :: (r ++ [42, 47, 125, 125])) b
  rw [← e3, el] at h8
  have hd : s.drop (a.length + 4 + r.length + 2 + 2) = b := by
    rw [List.take_length] at h8
    rw [show a.length + 4 + r.length + 2 + 2 = a.length + 2 + (47 :: 42 :: (r ++ [42, 47, 125, 125])).length by simp; omega]
    exact h8
  obtain ⟨k1, x, k2, k3, k4, k5⟩ := items_one hs ha (by rw [hs]; simp; omega) hb hT (by rw [hd]; exact h)
  refine ⟨k1, ?_⟩
  have hA : trimsA (47 :: 42 :: (r ++ [42, 47])) = false := by unfold trimsA; simp
  have hZ : trimsZ (47 :: 42 :: (r ++ [42, 47])) = false := by
    unfold trimsZ
    have : (47 :: 42 :: (r ++ [42, 47])).getD ((47 :: 42 :: (r ++ [42, 47])).length - 1) 0 = (47 : UInt8) := by
      rw [show 47 :: 42 :: (r ++ [42, 47]) = (47 :: 42 :: (r ++ [42])) ++ [(47 : UInt8)] by simp]
      simp
    rw [this]
    simp
  rw [k5]
  obtain ⟨p1, p2⟩ := pcs_rem (x := x) (n := a.length) (by rw [k2]; exact hR) (by rw [k2, hI]; exact hA)
  rw [p1, p2, k3, k4, hI]
  have : trimsT (47 :: 42 :: (r ++ [42, 47])) = 47 :: 42 :: (r ++ [42, 47]) := by unfold trimsT; rw [hA]; rfl
  rw [this, hZ]
  show finP [] (a ++ (s.take s.length).drop _) = _
  rw [List.take_length, hd]
end Go.Mu
