/-
  Lemmas on the given program (part 6).
-/
import Derived.Test.YtfepcpcnfibbnaaDoorM5
import Derived.Test.YtfepcpcnfibbnaaDoorRows
set_option linter.unusedVariables false
set_option linter.unusedSimpArgs false
set_option maxRecDepth 100000
namespace Go.Mu
open Go Go.Proofs
def isNm (s : List UInt8) : Prop := s ≠ [] ∧ s.length ≤ 32 ∧ (∀ c ∈ s, nmC c = true) ∧ (ltr (s.getD 0 0) || s.getD 0 0 == 95) = true
theorem nameB_nm {s : List UInt8} (h : nameB s = true) : isNm s := by
  unfold nameB at h
  rw [Bool.and_eq_true, decide_eq_true_eq, Bool.not_eq_true'] at h
  obtain ⟨⟨h1, h2⟩, h3⟩ := h
  have hc : ∀ n : Fin 256, (rBadA (UInt8.ofNat n) = false → (ltr (UInt8.ofNat n) || UInt8.ofNat n == 95) = true ∧ nmC (UInt8.ofNat n) = true) ∧ (oBad (UInt8.ofNat n) = false → nmC (UInt8.ofNat n) = true) := by decide +kernel
  have hc' : ∀ c : UInt8, (rBadA c = false → (ltr c || c == 95) = true ∧ nmC c = true) ∧ (oBad c = false → nmC c = true) := fun c => by
    have := hc ⟨c.toNat, c.toNat_lt⟩
    simpa using this
  cases s with
  | nil => simp at h1
  | cons c t =>
    rw [nmHit_any, Bool.or_eq_false_iff, List.any_eq_false] at h3
    obtain ⟨h4, h5⟩ := h3
    refine ⟨by simp, h2, fun d hd => ?_, ((hc' c).1 h4).1⟩
    rcases List.mem_cons.1 hd with rfl | hd
    · exact ((hc' d).1 h4).2
    · exact (hc' d).2 (by simpa using h5 d hd)
theorem isNm_46 {s : List UInt8} (h : isNm s) : (46 : UInt8) ∉ s := fun hm => by
  have := h.2.2.1 _ hm
  exact absurd this (by decide)
theorem isNm_dig {s : List UInt8} (h : isNm s) : dig (s.getD 0 0) = false := by
  have hc : ∀ n : Fin 256, (ltr (UInt8.ofNat n) || UInt8.ofNat n == 95) = true → dig (UInt8.ofNat n) = false := by decide +kernel
  have := hc ⟨(s.getD 0 0).toNat, (s.getD 0 0).toNat_lt⟩
  simp only [UInt8.ofNat_toNat] at this
  exact this h.2.2.2
def stopB (rest : List UInt8) : Prop := rest = [] ∨ ∃ r, rest = 32 :: r
theorem runN_nm : ∀ {s rest : List UInt8}, (∀ c ∈ s, nmC c = true) → (rest = [] ∨ nmC (rest.getD 0 0) = false) → runN (s ++ rest) = s.length
  | [], rest, _, h => by
    cases rest with
    | nil => rfl
    | cons c t =>
      rw [List.nil_append, runN_cons]
      rcases h with h | h
      · cases h
      · rw [show nmC c = false from h]; rfl
  | c :: s, rest, hs, h => by
    rw [List.cons_append, runN_cons, hs c (by simp), runN_nm (fun d hd => hs d (by simp [hd])) h]
    rfl
theorem idE_nm {s rest : List UInt8} (h : isNm s) (hr : rest = [] ∨ nmC (rest.getD 0 0) = false) : idE (s ++ rest) = 0 ∧ runN (s ++ rest) = s.length := by
  have hrun := runN_nm h.2.2.1 hr
  refine ⟨?_, hrun⟩
  unfold idE
  have h0 : (s ++ rest).getD 0 0 = s.getD 0 0 := by
    cases s with
    | nil => exact absurd rfl h.1
    | cons c t => rfl
  have hp : 0 < s.length := List.length_pos_iff.2 h.1
  rw [hrun, h0, isNm_dig h, dT hp, dT h.2.1]
  rfl
theorem stop_nm {rest : List UInt8} (h : stopB rest) : rest = [] ∨ nmC (rest.getD 0 0) = false := by
  rcases h with h | ⟨r, rfl⟩
  · exact .inl h
  · exact .inr (by show nmC 32 = false; decide)
def pathK (l : List (List UInt8)) : List UInt8 := (l.map (46 :: ·)).flatten
theorem pathK_cons (s : List UInt8) (l : List (List UInt8)) : pathK (s :: l) = 46 :: (s ++ pathK l) := by simp [pathK]
theorem join_pathK (s : List UInt8) (l : List (List UInt8)) : Lib.join (s :: l) [46] = s ++ pathK l := by
  rw [Lib.join_cons]; rfl
theorem pathK_stop {l : List (List UInt8)} {rest : List UInt8} (h : stopB rest) : pathK l ++ rest = [] ∨ nmC ((pathK l ++ rest).getD 0 0) = false := by
  cases l with
  | nil => exact stop_nm h
  | cons s l => rw [pathK_cons]; exact .inr (by show nmC 46 = false; decide)
theorem dots_path : ∀ (l : List (List UInt8)) (rest : List UInt8) (m : Nat), (∀ s ∈ l, isNm s) → stopB rest → (pathK l).length ≤ m → dotsM m (pathK l ++ rest) = (0, (pathK l).length)
  | [], rest, m, _, hr, _ => by
    cases m with
    | zero => rfl
    | succ m =>
      rw [dotsM]
      have : (decide (1 < ([] ++ rest : List UInt8).length) && ([] ++ rest : List UInt8).getD 0 0 == 46) = false := by
        rcases hr with rfl | ⟨r, rfl⟩
        · rfl
        · show (_ && (32 : UInt8) == 46) = false
          rw [show ((32 : UInt8) == 46) = false from rfl, Bool.and_false]
      show (bif (decide (1 < ([] ++ rest : List UInt8).length) && ([] ++ rest : List UInt8).getD 0 0 == 46) then _ else _) = _
      rw [this]; rfl
  | s :: l, rest, m, hs, hr, hm => by
    have hns := hs s (by simp)
    have hp : 0 < s.length := List.length_pos_iff.2 hns.1
    rw [pathK_cons, List.length_cons, List.length_append] at hm
    obtain ⟨m, rfl⟩ : ∃ m', m = m' + 1 := ⟨m - 1, by omega⟩
    obtain ⟨e1, e2⟩ := idE_nm hns (pathK_stop (l := l) hr)
    have e0 : pathK (s :: l) ++ rest = 46 :: (s ++ (pathK l ++ rest)) := by rw [pathK_cons]; simp
    rw [e0, dotsM]
    have c1 : (decide (1 < (46 :: (s ++ (pathK l ++ rest))).length) && (46 :: (s ++ (pathK l ++ rest))).getD 0 0 == 46) = true := by
      rw [dT (by simp; omega)]; rfl
    have d1 : (46 :: (s ++ (pathK l ++ rest))).drop 1 = s ++ (pathK l ++ rest) := rfl
    have d2 : (46 :: (s ++ (pathK l ++ rest))).drop (1 + s.length) = pathK l ++ rest := by
      rw [Nat.add_comm, List.drop_succ_cons, List.drop_left]
    rw [c1, d1, e1, e2, d2, dots_path l rest m (fun x hx => hs x (by simp [hx])) hr (by omega), pathK_cons]
    simp only [cond_true, beq_self_eq_true, List.length_cons, List.length_append, Prod.mk.injEq, true_and]
    omega
def Tok (t : List UInt8) (kind : Int) (text : List UInt8) : Prop := t ≠ [] ∧ blk (t.getD 0 0) = false ∧ ∀ rest, stopB rest → oneM (t ++ rest) = ⟨0, 0, kind, text, t.length⟩
theorem take_left' (t rest : List UInt8) : (t ++ rest).take t.length = t := List.take_left
theorem tok_name {s : List UInt8} (h : isNm s) : Tok s 1 s := by
  have h0 : ∀ rest, (s ++ rest).getD 0 0 = s.getD 0 0 := fun rest => by
    cases s with
    | nil => exact absurd rfl h.1
    | cons c t => rfl
  refine ⟨h.1, ?_, fun rest hr => ?_⟩
  · have hc : ∀ n : Fin 256, (ltr (UInt8.ofNat n) || UInt8.ofNat n == 95) = true → blk (UInt8.ofNat n) = false := by decide +kernel
    have := hc ⟨(s.getD 0 0).toNat, (s.getD 0 0).toNat_lt⟩
    simp only [UInt8.ofNat_toNat] at this
    exact this h.2.2.2
  · obtain ⟨e1, e2⟩ := idE_nm h (stop_nm hr)
    unfold oneM
    rw [h0, h.2.2.2, cond_true, e1, e2]
    unfold cutR
    rw [take_left']
theorem tok_path {l : List (List UInt8)} (h : ∀ s ∈ l, isNm s) : Tok (46 :: Lib.join l [46]) 2 (46 :: Lib.join l [46]) := by
  refine ⟨by simp, by show blk 46 = false; decide, fun rest hr => ?_⟩
  unfold oneM
  have f0 : (46 :: Lib.join l [46] ++ rest).getD 0 0 = (46 : UInt8) := rfl
  rw [f0, show (ltr 46 || (46 : UInt8) == 95) = false by decide, show ((46 : UInt8) == 46) = true from rfl, cond_false, cond_true]
  have key : dotM (46 :: Lib.join l [46] ++ rest) = (0, (46 :: Lib.join l [46]).length) := by
    unfold dotM
    cases l with
    | nil =>
      have : hd1 (46 :: Lib.join [] [46] ++ rest) = false := by
        rcases hr with rfl | ⟨r, rfl⟩
        · rfl
        · show (decide (1 < (46 :: 32 :: r).length) && (ltr 32 || (32 : UInt8) == 95)) = false
          rw [show (ltr 32 || (32 : UInt8) == 95) = false by decide, Bool.and_false]
      rw [this]; rfl
    | cons s l =>
      have hs := h s (by simp)
      have e : 46 :: Lib.join (s :: l) [46] = pathK (s :: l) := by rw [join_pathK, pathK_cons]
      have hp : 0 < s.length := List.length_pos_iff.2 hs.1
      rw [e, dots_path (s :: l) rest _ h hr (by simp)]
      have : hd1 (pathK (s :: l) ++ rest) = true := by
        unfold hd1
        rw [pathK_cons]
        have g : (46 :: (s ++ pathK l) ++ rest).getD 1 0 = s.getD 0 0 := by
          cases s with
          | nil => exact absurd rfl hs.1
          | cons c t => rfl
        rw [g, hs.2.2.2, dT (by simp; omega)]
        rfl
      rw [this]; rfl
  rw [key]
  unfold cutR
  rw [take_left']
theorem tok_var {nm : List UInt8} {l : List (List UInt8)} (hn : nm = [] ∨ isNm nm) (h : ∀ s ∈ l, isNm s) : Tok (Lib.join ((36 :: nm) :: l) [46]) 3 (Lib.join ((36 :: nm) :: l) [46]) := by
  rw [join_pathK]
  refine ⟨by simp, by show blk 36 = false; decide, fun rest hr => ?_⟩
  unfold oneM
  have f0 : ((36 :: nm) ++ pathK l ++ rest).getD 0 0 = (36 : UInt8) := rfl
  rw [f0, show (ltr 36 || (36 : UInt8) == 95) = false by decide, show ((36 : UInt8) == 46) = false from rfl, show ((36 : UInt8) == 36) = true from rfl, cond_false, cond_false, cond_true]
  have e : (36 :: nm) ++ pathK l ++ rest = 36 :: (nm ++ (pathK l ++ rest)) := by simp
  have key : dollarM ((36 :: nm) ++ pathK l ++ rest) = (0, ((36 :: nm) ++ pathK l).length) := by
    unfold dollarM
    rw [e]
    have d1 : (36 :: (nm ++ (pathK l ++ rest))).drop 1 = nm ++ (pathK l ++ rest) := rfl
    rcases hn with rfl | hn
    · have : hd1 (36 :: ([] ++ (pathK l ++ rest))) = false := by
        unfold hd1
        have : (ltr ((36 :: ([] ++ (pathK l ++ rest))).getD 1 0) || (36 :: ([] ++ (pathK l ++ rest))).getD 1 0 == 95) = false ∨ ([] ++ (pathK l ++ rest) : List UInt8) = [] := by
          cases l with
          | nil =>
            rcases hr with rfl | ⟨r, rfl⟩
            · exact .inr rfl
            · exact .inl (by show (ltr 32 || (32 : UInt8) == 95) = false; decide)
          | cons s l => exact .inl (by rw [pathK_cons]; show (ltr 46 || (46 : UInt8) == 95) = false; decide)
        rcases this with g | g
        · rw [g, Bool.and_false]
        · rw [g]; rfl
      rw [this, d1, List.nil_append, dots_path l rest _ h hr (by simp; omega)]
      simp only [cond_false, List.length_append, List.length_cons, List.length_nil]
    · obtain ⟨e1, e2⟩ := idE_nm hn (pathK_stop (l := l) hr)
      have hp : 0 < nm.length := List.length_pos_iff.2 hn.1
      have : hd1 (36 :: (nm ++ (pathK l ++ rest))) = true := by
        unfold hd1
        have g : (36 :: (nm ++ (pathK l ++ rest))).getD 1 0 = nm.getD 0 0 := by
          cases nm with
          | nil => exact absurd rfl hn.1
          | cons c t => rfl
        rw [g, hn.2.2.2, dT (by simp; omega)]
        rfl
      have d2 : (36 :: (nm ++ (pathK l ++ rest))).drop (1 + nm.length) = pathK l ++ rest := by
        rw [Nat.add_comm, List.drop_succ_cons, List.drop_left]
      rw [this, d1, e1, e2, d2, dots_path l rest _ h hr (by simp; omega)]
      simp only [cond_true, beq_self_eq_true, List.length_append, List.length_cons, Prod.mk.injEq, true_and]
      omega
  rw [key]
  unfold cutR
  rw [take_left']
theorem tok_quote (s : List UInt8) (h : s.length ≤ 4096) : Tok (quoteM s) 5 s := by
  refine ⟨by simp [quoteM], by show blk 34 = false; decide, fun rest hr => ?_⟩
  rw [one_quote, dT h]; rfl
theorem tok_bar : Tok [124] 6 [124] := by
  refine ⟨by simp, by decide, fun rest hr => ?_⟩
  unfold oneM
  have f0 : ([124] ++ rest).getD 0 0 = (124 : UInt8) := rfl
  rw [f0]
  have hp : [58, 61].isPrefixOf ([124] ++ rest) = false := rfl
  rw [show (ltr 124 || (124 : UInt8) == 95) = false by decide, show ((124 : UInt8) == 46) = false from rfl, show ((124 : UInt8) == 36) = false from rfl, show ((124 : UInt8) == 45 || dig 124) = false by decide, show ((124 : UInt8) == 34) = false from rfl, hp]
  rfl
end Go.Mu
set_option linter.unusedVariables false
set_option linter.unusedSimpArgs false
set_option maxRecDepth 100000
namespace Go.Mu
open Go Go.Proofs
def valD (n : Nat) (t : List UInt8) : Nat := t.foldl (fun n c => n * 10 + (c.toNat - 48)) n
theorem valD_cons (n : Nat) (c : UInt8) (t : List UInt8) : valD n (c :: t) = valD (n * 10 + (c.toNat - 48)) t := by unfold valD; rw [List.foldl_cons]
theorem valD_ge (t : List UInt8) : ∀ n : Nat, n ≤ valD n t := by
  induction t with
  | nil => intro n; exact Nat.le_refl n
  | cons c t ih =>
    intro n
    rw [valD_cons]
    have h1 := ih (n * 10 + (c.toNat - 48))
    have h2 : n ≤ n * 10 + (c.toNat - 48) := by omega
    exact Nat.le_trans h2 h1
theorem numL_val : ∀ (t : List UInt8) (n : Nat), valD n t ≤ 9223372036854775808 → numL n t = (false, valD n t)
  | [], n, h => rfl
  | c :: t, n, h => by
    rw [valD_cons] at h
    have := valD_ge t (n * 10 + (c.toNat - 48))
    rw [numL, dF (by omega), cond_false, valD_cons]
    exact numL_val t _ h
theorem dg_nat (u : Nat) : (UInt8.ofNat (48 + u % 10)).toNat = 48 + u % 10 := by
  have : u % 10 < 10 := Nat.mod_lt _ (by decide)
  rw [UInt8.toNat_ofNat', Nat.mod_eq_of_lt (show 48 + u % 10 < 2 ^ 8 by omega)]
theorem dg_dig (u : Nat) : dig (UInt8.ofNat (48 + u % 10)) = true := by
  have : u % 10 < 10 := Nat.mod_lt _ (by decide)
  unfold dig
  rw [dg_nat, dT (by omega), dT (by omega)]; rfl
theorem digs_val : ∀ (f u : Nat) (t : List UInt8), 0 < f → u < 10 ^ f → valD 0 (digsF f u t) = valD u t
  | 0, u, t, h, _ => absurd h (by decide)
  | f + 1, u, t, _, hu => by
    rw [digsF]
    cases hq : u / 10 == 0 with
    | true =>
      have : u / 10 = 0 := by simpa using hq
      rw [cond_true, valD_cons, dg_nat]
      congr 1; omega
    | false =>
      have h0 : u / 10 ≠ 0 := by simpa using hq
      rw [cond_false]
      have hf : 0 < f := by
        cases f with
        | zero => simp at hu; omega
        | succ f => omega
      rw [digs_val f (u / 10) _ hf (by rw [Nat.pow_succ] at hu; omega), valD_cons, dg_nat]
      congr 1; omega
theorem digs_all : ∀ (f u : Nat) (t : List UInt8), (∀ c ∈ t, dig c = true) → ∀ c ∈ digsF f u t, dig c = true
  | 0, u, t, h => h
  | f + 1, u, t, h => by
    have h2 : ∀ c ∈ UInt8.ofNat (48 + u % 10) :: t, dig c = true := fun c hc => by
      rcases List.mem_cons.1 hc with rfl | hc
      · exact dg_dig u
      · exact h c hc
    rw [digsF]
    cases u / 10 == 0 with
    | true => exact h2
    | false => exact digs_all f (u / 10) _ h2
theorem digs_head : ∀ (f u : Nat) (t : List UInt8), 0 < f → 0 < u → u < 10 ^ f → digsF f u t ≠ [] ∧ (digsF f u t).getD 0 0 ≠ 48
  | 0, u, t, h, _, _ => absurd h (by decide)
  | f + 1, u, t, _, h0, hu => by
    rw [digsF]
    cases hq : u / 10 == 0 with
    | true =>
      have : u / 10 = 0 := by simpa using hq
      refine ⟨by simp, fun h => ?_⟩
      have h2 := congrArg UInt8.toNat h
      rw [cond_true, List.getD_cons_zero, dg_nat] at h2
      have : (48 : UInt8).toNat = 48 := rfl
      omega
    | false =>
      have h1 : u / 10 ≠ 0 := by simpa using hq
      have hf : 0 < f := by
        cases f with
        | zero => simp at hu; omega
        | succ f => omega
      exact digs_head f (u / 10) _ hf (by omega) (by rw [Nat.pow_succ] at hu; omega)
theorem digs_fact (u : Nat) (h : u ≤ 9223372036854775808) : digsF 19 u [] ≠ [] ∧ (∀ c ∈ digsF 19 u [], dig c = true) ∧ numL 0 (digsF 19 u []) = (false, u) ∧ ((digsF 19 u []).getD 0 0 = 48 → u = 0 ∧ digsF 19 u [] = [48]) := by
  have hv := digs_val 19 u [] (by decide) (by omega)
  have e : valD u [] = u := rfl
  rw [e] at hv
  refine ⟨?_, digs_all 19 u [] (fun c hc => by cases hc), ?_, fun h48 => ?_⟩
  · by_cases h0 : u = 0
    · subst h0; decide
    · exact (digs_head 19 u [] (by decide) (by omega) (by omega)).1
  · rw [numL_val _ _ (by rw [hv]; exact h), hv]
  · by_cases h0 : u = 0
    · subst h0; exact ⟨rfl, rfl⟩
    · exact absurd h48 (digs_head 19 u [] (by decide) (by omega) (by omega)).2
theorem nd_all {l : List UInt8} (h : ∀ c ∈ l, dig c = true) : l.any ndC = false := by
  rw [List.any_eq_false]
  intro c hc
  rw [nd_dig, h c hc]; simp
theorem numM_print (n : Int) (h1 : -9223372036854775808 ≤ n) (h2 : n ≤ 9223372036854775807) : numM (printM n) = (n, 0) := by
  obtain ⟨d1, d2, d3, d4⟩ := digs_fact n.natAbs (by omega)
  unfold printM
  by_cases h0 : n < 0
  · rw [dT h0, cond_true]
    unfold numM
    have e1 : [45].isPrefixOf (45 :: digsF 19 n.natAbs []) = true := rfl
    have e2 : (45 :: digsF 19 n.natAbs []).drop 1 = digsF 19 n.natAbs [] := rfl
    have e3 : (digsF 19 n.natAbs [] == []) = false := by simpa using d1
    have e4 : ((digsF 19 n.natAbs []).getD 0 0 == 48) = false := by
      simp only [beq_eq_false_iff_ne, ne_eq]
      intro h
      have := (d4 h).1
      omega
    rw [e1, e2, e3, nd_all d2, e4, d3]
    simp only [cond_true, cond_false, Bool.or_self]
    rw [show (-(n.natAbs : Int)) = n by omega]
  · rw [dF h0, cond_false]
    unfold numM
    have e1 : [45].isPrefixOf (digsF 19 n.natAbs []) = false := by
      cases hd : digsF 19 n.natAbs [] with
      | nil => rfl
      | cons c t =>
        have := d2 c (by rw [hd]; simp)
        have hc : c ≠ 45 := fun e => by subst e; exact absurd this (by decide)
        simp [List.isPrefixOf, hc.symm]
    have e3 : (digsF 19 n.natAbs [] == []) = false := by simpa using d1
    have e4 : ((digsF 19 n.natAbs []).getD 0 0 == 48 && decide (1 < (digsF 19 n.natAbs []).length)) = false := by
      cases hb : (digsF 19 n.natAbs []).getD 0 0 == 48 with
      | false => rfl
      | true =>
        have := (d4 (by simpa using hb)).2
        rw [this]; rfl
    rw [e1, e3, nd_all d2, e4, d3]
    simp only [cond_false, Bool.or_self]
    rw [dF (by omega), cond_false]
    rw [show ((n.natAbs : Nat) : Int) = n by omega]
theorem dgN_all : ∀ {s rest : List UInt8}, (∀ c ∈ s, dig c = true) → stopB rest → dgN (s ++ rest) = s.length
  | [], rest, _, h => by
    rcases h with rfl | ⟨r, rfl⟩
    · rfl
    · rw [List.nil_append, dgN_cons]; rfl
  | c :: s, rest, hs, h => by
    rw [List.cons_append, dgN_cons, hs c (by simp), dgN_all (fun d hd => hs d (by simp [hd])) h]
    rfl
theorem tok_num (n : Int) (h1 : -9223372036854775808 ≤ n) (h2 : n ≤ 9223372036854775807) : Tok (printM n) 4 (printM n) := by
  obtain ⟨d1, d2, d3, d4⟩ := digs_fact n.natAbs (by omega)
  have hm := numM_print n h1 h2
  -- a sign or digits
  obtain ⟨c, D, hp, hc, hD⟩ : ∃ c D, printM n = c :: D ∧ (c == 45 || dig c) = true ∧ ∀ x ∈ D, dig x = true := by
    unfold printM
    by_cases h0 : n < 0
    · rw [dT h0]; exact ⟨45, _, rfl, rfl, d2⟩
    · rw [dF h0, cond_false]
      cases hd : digsF 19 n.natAbs [] with
      | nil => exact absurd hd d1
      | cons c t =>
        rw [hd] at d2
        exact ⟨c, t, rfl, by rw [d2 c (by simp), Bool.or_true], fun x hx => d2 x (by simp [hx])⟩
  have hall : ∀ m : Fin 256, (UInt8.ofNat m == 45 || dig (UInt8.ofNat m)) = true → blk (UInt8.ofNat m) = false ∧ (ltr (UInt8.ofNat m) || UInt8.ofNat m == 95) = false ∧ (UInt8.ofNat m == 46) = false ∧ (UInt8.ofNat m == 36) = false := by decide +kernel
  have hcc := hall ⟨c.toNat, c.toNat_lt⟩
  simp only [UInt8.ofNat_toNat] at hcc
  obtain ⟨g1, g2, g3, g4⟩ := hcc hc
  rw [hp]
  refine ⟨by simp, g1, fun rest hr => ?_⟩
  have f0 : (c :: D ++ rest).getD 0 0 = c := rfl
  have hk : digM (c :: D ++ rest) = (0, (c :: D).length) := by
    unfold digM
    have e1 : (c :: D ++ rest).drop 1 = D ++ rest := rfl
    have e2 : (c :: D ++ rest).take (1 + D.length) = c :: D := by
      rw [show 1 + D.length = (c :: D).length by simp; omega]
      exact List.take_left
    rw [e1, dgN_all hD hr, e2, ← hp, hm]
    rw [hp, List.length_cons, Nat.add_comm]
    rfl
  unfold oneM
  rw [f0, g2, g3, g4, hc, cond_false, cond_false, cond_false, cond_true, hk]
  unfold cutR
  rw [take_left']
/- parting at dots -/
theorem idxB_none : ∀ {s : List UInt8}, (46 : UInt8) ∉ s → Lib.indexByte s 46 = -1
  | [], _ => rfl
  | c :: s, h => by
    have hc : (c == 46) = false := by
      simp only [beq_eq_false_iff_ne, ne_eq]
      intro e; exact h (by simp [e])
    rw [Lib.indexByte, hc, idxB_none (fun hm => h (by simp [hm]))]
    rfl
theorem idxB_hit : ∀ {s : List UInt8} (rest : List UInt8), (46 : UInt8) ∉ s → Lib.indexByte (s ++ 46 :: rest) 46 = (s.length : Int)
  | [], rest, _ => rfl
  | c :: s, rest, h => by
    have hc : (c == 46) = false := by
      simp only [beq_eq_false_iff_ne, ne_eq]
      intro e; exact h (by simp [e])
    rw [List.cons_append, Lib.indexByte, hc, idxB_hit rest (fun hm => h (by simp [hm]))]
    have : ((s.length : Int) == -1) = false := by
      simp only [beq_eq_false_iff_ne, ne_eq]; omega
    rw [this]
    simp
theorem splitM_eq (s : List UInt8) : splitM s [46] = Lib.splitK [46] 0 (Lib.count s [46]) s := by
  unfold splitM
  rw [Lib.splitB_data]
  rfl
theorem splitK_join : ∀ (l : List (List UInt8)) (s : List UInt8), (46 : UInt8) ∉ s → (∀ x ∈ l, (46 : UInt8) ∉ x) → Lib.count (s ++ pathK l) [46] = l.length ∧ Lib.splitK [46] 0 l.length (s ++ pathK l) = s :: l
  | [], s, hs, _ => by
    have e : s ++ pathK [] = s := by simp [pathK]
    rw [e]
    have hi : Lib.index s [46] = -1 := by rw [Lib.index_one]; exact idxB_none hs
    exact ⟨Lib.count_miss hi, rfl⟩
  | x :: l, s, hs, hl => by
    have e : s ++ pathK (x :: l) = s ++ 46 :: (x ++ pathK l) := by rw [pathK_cons]
    rw [e]
    have hi : Lib.index (s ++ 46 :: (x ++ pathK l)) [46] = (s.length : Int) := by rw [Lib.index_one]; exact idxB_hit _ hs
    obtain ⟨i1, i2⟩ := splitK_join l x (hl x (by simp)) (fun y hy => hl y (by simp [hy]))
    have ed : (s ++ 46 :: (x ++ pathK l)).drop (s.length + 1) = x ++ pathK l := by
      rw [show s ++ 46 :: (x ++ pathK l) = (s ++ [46]) ++ (x ++ pathK l) by simp, show s.length + 1 = (s ++ [46]).length by simp]
      exact List.drop_left
    refine ⟨?_, ?_⟩
    · rw [Lib.count_hit (by simp) hi]
      show 1 + Lib.count ((s ++ 46 :: (x ++ pathK l)).drop (s.length + 1)) [46] = _
      rw [ed, i1, List.length_cons, Nat.add_comm]
    · rw [List.length_cons, Lib.splitK]
      have : (Lib.index (s ++ 46 :: (x ++ pathK l)) [46] == -1) = false := by
        rw [hi]
        simp only [beq_eq_false_iff_ne, ne_eq]; omega
      rw [this, hi]
      simp only [Int.toNat_natCast, Nat.add_zero]
      show (s ++ 46 :: (x ++ pathK l)).take s.length :: Lib.splitK [46] 0 l.length ((s ++ 46 :: (x ++ pathK l)).drop (s.length + 1)) = _
      rw [ed, i2, List.take_left]
theorem steps_join {l : List (List UInt8)} (h : ∀ s ∈ l, isNm s) : stepsM (46 :: Lib.join l [46]) = l := by
  cases l with
  | nil => rfl
  | cons s l =>
    have hs := h s (by simp)
    have hp : 0 < s.length := List.length_pos_iff.2 hs.1
    unfold stepsM
    have e0 : (46 :: Lib.join (s :: l) [46] == [46] || 46 :: Lib.join (s :: l) [46] == []) = false := by
      rw [Bool.or_eq_false_iff]
      refine ⟨?_, rfl⟩
      simp only [beq_eq_false_iff_ne, ne_eq]
      intro e
      rw [join_pathK] at e
      have := congrArg List.length e
      rw [List.length_cons, List.length_append] at this
      have h1 : ([46] : List UInt8).length = 1 := rfl
      omega
    rw [e0, cond_false]
    show splitM (Lib.join (s :: l) [46]) [46] = _
    obtain ⟨i1, i2⟩ := splitK_join l s (isNm_46 hs) (fun x hx => isNm_46 (h x (by simp [hx])))
    rw [join_pathK, splitM_eq, i1, i2]
theorem cut_var {nm : List UInt8} {l : List (List UInt8)} (hn : (46 : UInt8) ∉ nm) (h : ∀ s ∈ l, isNm s) : (Lib.cut (nm ++ pathK l) [46]).1 = nm ∧ stepsM (varRest (nm ++ pathK l)) = l := by
  cases l with
  | nil =>
    have e : nm ++ pathK [] = nm := by simp [pathK]
    have hi : Lib.index nm [46] = -1 := by rw [Lib.index_one]; exact idxB_none hn
    rw [e]
    unfold varRest Lib.cut
    rw [hi]
    exact ⟨rfl, rfl⟩
  | cons s l =>
    have e : nm ++ pathK (s :: l) = nm ++ 46 :: (s ++ pathK l) := by rw [pathK_cons]
    have hi : Lib.index (nm ++ 46 :: (s ++ pathK l)) [46] = (nm.length : Int) := by rw [Lib.index_one]; exact idxB_hit _ hn
    have hc : Lib.cut (nm ++ pathK (s :: l)) [46] = (nm, s ++ pathK l, true) := by
      unfold Lib.cut
      rw [e, hi, if_pos (by omega), Int.toNat_natCast, List.take_left]
      show (nm, (nm ++ 46 :: (s ++ pathK l)).drop (nm.length + 1), true) = _
      rw [show nm ++ 46 :: (s ++ pathK l) = (nm ++ [46]) ++ (s ++ pathK l) by simp, show nm.length + 1 = (nm ++ [46]).length by simp, List.drop_left]
    unfold varRest
    rw [hc]
    refine ⟨rfl, ?_⟩
    show stepsM (46 :: (s ++ pathK l)) = _
    rw [← join_pathK]
    exact steps_join h
end Go.Mu
set_option linter.unusedVariables false
set_option linter.unusedSimpArgs false
set_option maxRecDepth 100000
namespace Go.Mu
open Go Go.Proofs
def kx (w : WdD) : Int × List UInt8 := (w.kind, w.text)
def setP (a : ArgD) : ArgD := { a with pf := true }
structure ArgF (a : ArgD) : Prop where
  p1 : ∀ s ∈ a.path, isNm s
  p2 : a.path.length ≤ 16
  p3 : 1 ≤ a.kind ∧ a.kind ≤ 7
  p4 : (a.kind = 2 ∧ isNm a.name) ∨ a.name = []
  p5 : a.kind ≤ 2 ∨ a.path = []
  p6 : a.kind = 3 ∨ a.int = 0
  p7 : a.kind = 4 ∨ a.text = []
  p8 : a.text.length ≤ 4096
theorem argB_f {a : ArgD} (h : argB a = true) : ArgF a := by
  unfold argB pBad pArgT at h
  simp only [bif_and, bif_or, Bool.and_eq_true, Bool.or_eq_true, decide_eq_true_eq, Bool.not_eq_true', List.any_eq_false, beq_iff_eq] at h
  obtain ⟨⟨h1, h2⟩, ⟨⟨⟨⟨⟨h3, h4⟩, h5⟩, h6⟩, h7⟩, h8⟩⟩ := h
  refine ⟨fun s hs => nameB_nm (by simpa using h1 s hs), h2, h3, ?_, ?_, h6, h7, by omega⟩
  · rcases h4 with ⟨k, h4⟩ | h4
    · rcases h4 with h4 | h4
      · exact .inr h4
      · exact .inl ⟨k, nameB_nm h4⟩
    · exact .inr h4
  · rcases h5 with h5 | h5
    · exact .inl h5
    · exact .inr (List.eq_nil_of_length_eq_zero (by omega))
theorem pathK_len : ∀ (l : List (List UInt8)), (∀ s ∈ l, isNm s) → (pathK l).length ≤ 33 * l.length
  | [], _ => Nat.le_refl _
  | s :: l, h => by
    have := pathK_len l (fun x hx => h x (by simp [hx]))
    have := (h s (by simp)).2.1
    rw [pathK_cons, List.length_cons, List.length_append, List.length_cons]
    omega
theorem tok_cTrue : Tok cTrue 1 cTrue := tok_name ⟨by decide, by decide, by decide, by decide⟩
theorem tok_cFalse : Tok cFalse 1 cFalse := tok_name ⟨by decide, by decide, by decide, by decide⟩
theorem tok_cNil : Tok cNil 1 cNil := tok_name ⟨by decide, by decide, by decide, by decide⟩
def AW (a : ArgD) (w : WdD) : Prop := argE w = 0 ∧ argA w = setP a ∧ w.kind ≠ 6 ∧ isName w = false ∧ okWd w
theorem isC_no {w : WdD} (h : w.kind ≠ 1) : isC w = false := by
  unfold isC
  have : (w.kind == 1) = false := by simpa using h
  rw [this]; rfl
theorem isName_no {w : WdD} (h : w.kind ≠ 1) : isName w = false := by
  unfold isName
  have : (w.kind != 1) = true := by simp [bne, h]
  rw [this]; rfl
theorem steps_ok16 {s : List UInt8} {l : List (List UInt8)} (h : stepsM s = l) (hl : l.length ≤ 16) : stepsB s = true := by
  unfold stepsB; rw [h]; exact dT hl
theorem arg_tok {a : ArgD} (h : argB a = true) (hi : -9223372036854775808 ≤ a.int ∧ a.int ≤ 9223372036854775807) : ∃ k t, Tok (wordM a) k t ∧ ∀ w : WdD, kx w = (k, t) → AW a w := by
  obtain ⟨p1, p2, p3, p4, p5, p6, p7, p8⟩ := argB_f h
  obtain ⟨kd, nm, pf, path, int, text⟩ := a
  simp only at p1 p2 p3 p4 p5 p6 p7 p8 hi
  have hk : kd = 1 ∨ kd = 2 ∨ kd = 3 ∨ kd = 4 ∨ kd = 5 ∨ kd = 6 ∨ kd = 7 := by omega
  have hl := pathK_len path p1
  have kc : ∀ {w : WdD} {k : Int} {t : List UInt8}, kx w = (k, t) → w.kind = k ∧ w.text = t := fun h => by
    simp only [kx, Prod.mk.injEq] at h; exact h
  rcases hk with rfl | rfl | rfl | rfl | rfl | rfl | rfl
  · -- a path
    have h4 : nm = [] := p4.resolve_left (fun h => absurd h.1 (by decide))
    have h6 : int = 0 := p6.resolve_left (fun h => absurd h (by decide))
    have h7 : text = [] := p7.resolve_left (fun h => absurd h (by decide))
    subst h4 h6 h7
    refine ⟨2, 46 :: Lib.join path [46], tok_path p1, fun w hw => ?_⟩
    obtain ⟨e1, e2⟩ := kc hw
    have hs := steps_join p1
    have c0 := isC_no (w := w) (by rw [e1]; decide)
    refine ⟨?_, ?_, by rw [e1]; decide, isName_no (by rw [e1]; decide), ?_, by rw [e1]; intro h; exact absurd h (by decide)⟩
    · unfold argE; rw [c0, e1, e2, steps_ok16 hs p2]; rfl
    · unfold argA setP; rw [c0, e1, e2, hs]; rfl
    · rw [e2]
      cases path with
      | nil => show 1 ≤ 1048576; omega
      | cons s l =>
        rw [join_pathK, List.length_cons, List.length_append]
        rw [pathK_cons, List.length_cons, List.length_append, List.length_cons] at hl
        rw [List.length_cons] at p2
        omega
  · -- a variable
    have h4 : nm = [] ∨ isNm nm := p4.elim (fun h => .inr h.2) .inl
    have h6 : int = 0 := p6.resolve_left (fun h => absurd h (by decide))
    have h7 : text = [] := p7.resolve_left (fun h => absurd h (by decide))
    subst h6 h7
    refine ⟨3, Lib.join ((36 :: nm) :: path) [46], tok_var h4 p1, fun w hw => ?_⟩
    obtain ⟨e1, e2⟩ := kc hw
    have h46 : (46 : UInt8) ∉ nm := by
      rcases h4 with rfl | h
      · simp
      · exact isNm_46 h
    obtain ⟨c1, c2⟩ := cut_var h46 p1
    have c0 := isC_no (w := w) (by rw [e1]; decide)
    have ed : (Lib.join ((36 :: nm) :: path) [46]).drop 1 = nm ++ pathK path := by rw [join_pathK]; rfl
    refine ⟨?_, ?_, by rw [e1]; decide, isName_no (by rw [e1]; decide), ?_, fun _ => by rw [e2, join_pathK]; simp⟩
    · unfold argE; rw [c0, e1, e2, ed, steps_ok16 c2 p2]; rfl
    · unfold argA setP; rw [c0, e1, e2, ed, c1, c2]; rfl
    · rw [e2, join_pathK, List.length_append, List.length_cons]
      have : nm.length ≤ 32 := by
        rcases h4 with rfl | h
        · exact Nat.zero_le _
        · exact h.2.1
      omega
  · -- a number
    have h4 : nm = [] := p4.resolve_left (fun h => absurd h.1 (by decide))
    have h5 : path = [] := p5.resolve_left (fun h => absurd h (by decide))
    have h7 : text = [] := p7.resolve_left (fun h => absurd h (by decide))
    subst h4 h5 h7
    refine ⟨4, printM int, tok_num int hi.1 hi.2, fun w hw => ?_⟩
    obtain ⟨e1, e2⟩ := kc hw
    have c0 := isC_no (w := w) (by rw [e1]; decide)
    refine ⟨?_, ?_, by rw [e1]; decide, isName_no (by rw [e1]; decide), ?_, by rw [e1]; intro h; exact absurd h (by decide)⟩
    · unfold argE; rw [c0, e1]; rfl
    · unfold argA setP; rw [c0, e1, e2, numM_print int hi.1 hi.2]; rfl
    · rw [e2]
      have := digsF_len 19 int.natAbs []
      simp only [List.length_nil, Nat.zero_add] at this
      unfold printM
      cases decide (int < 0)
      · simp only [cond_false]; omega
      · simp only [cond_true, List.length_cons]; omega
  · -- a text
    have h4 : nm = [] := p4.resolve_left (fun h => absurd h.1 (by decide))
    have h5 : path = [] := p5.resolve_left (fun h => absurd h (by decide))
    have h6 : int = 0 := p6.resolve_left (fun h => absurd h (by decide))
    subst h4 h5 h6
    refine ⟨5, text, tok_quote text p8, fun w hw => ?_⟩
    obtain ⟨e1, e2⟩ := kc hw
    have c0 := isC_no (w := w) (by rw [e1]; decide)
    refine ⟨?_, ?_, by rw [e1]; decide, isName_no (by rw [e1]; decide), by rw [e2]; omega, by rw [e1]; intro h; exact absurd h (by decide)⟩
    · unfold argE; rw [c0, e1]; rfl
    · unfold argA setP; rw [c0, e1, e2]; rfl
  all_goals
    have h4 : nm = [] := p4.resolve_left (fun h => absurd h.1 (by decide))
    have h5 : path = [] := p5.resolve_left (fun h => absurd h (by decide))
    have h6 : int = 0 := p6.resolve_left (fun h => absurd h (by decide))
    have h7 : text = [] := p7.resolve_left (fun h => absurd h (by decide))
    subst h4 h5 h6 h7
  · refine ⟨1, cTrue, tok_cTrue, fun w hw => ?_⟩
    obtain ⟨e1, e2⟩ := kc hw
    obtain ⟨k, t, p⟩ := w
    simp only at e1 e2
    subst e1 e2
    exact ⟨rfl, rfl, by show (1 : Int) ≠ 6; decide, rfl, by show 4 ≤ 1048576; omega, fun h => absurd h (by show ¬ (1 : Int) = 3; decide)⟩
  · refine ⟨1, cFalse, tok_cFalse, fun w hw => ?_⟩
    obtain ⟨e1, e2⟩ := kc hw
    obtain ⟨k, t, p⟩ := w
    simp only at e1 e2
    subst e1 e2
    exact ⟨rfl, rfl, by show (1 : Int) ≠ 6; decide, rfl, by show 5 ≤ 1048576; omega, fun h => absurd h (by show ¬ (1 : Int) = 3; decide)⟩
  · refine ⟨1, cNil, tok_cNil, fun w hw => ?_⟩
    obtain ⟨e1, e2⟩ := kc hw
    obtain ⟨k, t, p⟩ := w
    simp only at e1 e2
    subst e1 e2
    exact ⟨rfl, rfl, by show (1 : Int) ≠ 6; decide, rfl, by show 3 ≤ 1048576; omega, fun h => absurd h (by show ¬ (1 : Int) = 3; decide)⟩
abbrev TK := List UInt8 × Int × List UInt8
def TokOK (x : TK) : Prop := Tok x.1 x.2.1 x.2.2
def inR (a : ArgD) : Prop := -9223372036854775808 ≤ a.int ∧ a.int ≤ 9223372036854775807
theorem map_cons_inv {α β : Type} {f : α → β} {l : List α} {b : β} {bs : List β} (h : l.map f = b :: bs) : ∃ a r, l = a :: r ∧ f a = b ∧ r.map f = bs := by
  cases l with
  | nil => cases h
  | cons a r =>
    rw [List.map_cons, List.cons.injEq] at h
    exact ⟨a, r, rfl, h.1, h.2⟩
theorem args_tok : ∀ (l : List ArgD), (∀ a ∈ l, argB a = true) → (∀ a ∈ l, inR a) → ∃ ts : List TK, l.map wordM = ts.map (·.1) ∧ (∀ x ∈ ts, TokOK x) ∧ ts.length = l.length ∧ ∀ ws : List WdD, ws.map kx = ts.map (·.2) → argsM ws = (l.map setP, none) ∧ ∀ w ∈ ws, w.kind ≠ 6 ∧ okWd w
  | [], _, _ => ⟨[], rfl, fun x hx => (by cases hx), rfl, fun ws h => by
    have : ws = [] := List.map_eq_nil_iff.1 h
    subst this
    exact ⟨rfl, fun w hw => (by cases hw)⟩⟩
  | a :: l, hb, hr => by
    obtain ⟨ts, h1, h2, h3, h4⟩ := args_tok l (fun x hx => hb x (by simp [hx])) (fun x hx => hr x (by simp [hx]))
    obtain ⟨k, t, g1, g2⟩ := arg_tok (hb a (by simp)) (hr a (by simp))
    refine ⟨(wordM a, k, t) :: ts, by simp [h1], fun x hx => ?_, by simp [h3], fun ws h => ?_⟩
    · rcases List.mem_cons.1 hx with rfl | hx
      · exact g1
      · exact h2 x hx
    · obtain ⟨w, r, rfl, e1, e2⟩ := map_cons_inv h
      obtain ⟨b1, b2, b3, b4, b5⟩ := g2 w e1
      obtain ⟨c1, c2⟩ := h4 r e2
      refine ⟨?_, fun x hx => ?_⟩
      · rw [argsM, b1, b2, c1]; rfl
      · rcases List.mem_cons.1 hx with rfl | hx
        · exact ⟨b3, b5⟩
        · exact c2 x hx
theorem all2_set : ∀ l : List ArgD, all2 argEq l (l.map setP) = true
  | [] => rfl
  | a :: l => by
    rw [List.map_cons, all2, all2_set l, Bool.and_true]
    exact argEq_refl a
theorem ar_name {s : List UInt8} (h : (ar s).2.2 = true) : isNm s ∧ constM s < 0 := by
  unfold ar at h
  have key : ∀ x ∈ ([[108, 101, 110], [110, 111, 116], [117, 112, 112, 101, 114], [108, 111, 119, 101, 114], [101, 113], [108, 116], [97, 110, 100], [111, 114], [106, 111, 105, 110], [100, 101, 102, 97, 117, 108, 116], [105, 110, 100, 101, 120], [112, 114, 105, 110, 116]] : List (List UInt8)), (x ≠ [] ∧ x.length ≤ 32 ∧ (∀ c ∈ x, nmC c = true) ∧ (ltr (x.getD 0 0) || x.getD 0 0 == 95) = true) ∧ constM x < 0 := by decide +kernel
  refine key s ?_
  cases h1 : (s == [108, 101, 110]) || (s == [110, 111, 116]) || (s == [117, 112, 112, 101, 114]) || (s == [108, 111, 119, 101, 114]) with
  | true =>
    simp only [Bool.or_eq_true, beq_iff_eq] at h1
    rcases h1 with ((h | h) | h) | h <;> subst h <;> simp
  | false =>
    rw [h1, cond_false] at h
    cases h2 : (s == [101, 113]) || (s == [108, 116]) || (s == [97, 110, 100]) || (s == [111, 114]) || (s == [106, 111, 105, 110]) || (s == [100, 101, 102, 97, 117, 108, 116]) || (s == [105, 110, 100, 101, 120]) with
    | true =>
      simp only [Bool.or_eq_true, beq_iff_eq] at h2
      rcases h2 with (((((h | h) | h) | h) | h) | h) | h <;> subst h <;> simp
    | false =>
      rw [h2, cond_false] at h
      cases h3 : s == [112, 114, 105, 110, 116] with
      | true => rw [beq_iff_eq] at h3; subst h3; simp
      | false => rw [h3, cond_false] at h; cases h
def CW (c : CallD) (b : Bool) (ws : List WdD) : Prop := ∃ w r, ws = w :: r ∧ (∀ x ∈ ws, x.kind ≠ 6 ∧ okWd x) ∧ calE w r b = none ∧ callEq c (calC w r) = true
theorem call_tok (c : CallD) (b : Bool) (h : callB c b = true) (hi : ∀ a ∈ c.args, inR a) : ∃ (x : TK) (ts : List TK), callWs c = (x :: ts).map (·.1) ∧ (∀ y ∈ x :: ts, TokOK y) ∧ ∀ ws : List WdD, ws.map kx = (x :: ts).map (·.2) → CW c b ws := by
  unfold callB cBad at h
  rw [Bool.and_eq_true, Bool.not_eq_true', List.any_eq_false] at h
  obtain ⟨h1, h2⟩ := h
  obtain ⟨ts, t1, t2, t3, t4⟩ := args_tok c.args (fun a ha => by simpa using h1 a ha) hi
  cases hn : c.name == [] with
  | true =>
    rw [hn, cond_true, Bool.and_eq_true, Bool.not_eq_true', beq_iff_eq] at h2
    obtain ⟨hb, hl⟩ := h2
    subst hb
    obtain ⟨nm, af, args⟩ := c
    simp only at hl h1 t1 t3 t4 hi hn
    have hnm : nm = [] := by simpa using hn
    subst hnm
    obtain ⟨a, rfl⟩ : ∃ a, args = [a] := by
      match args, hl with
      | [a], _ => exact ⟨a, rfl⟩
    obtain ⟨x, rfl⟩ : ∃ x, ts = [x] := by
      match ts, t3 with
      | [x], _ => exact ⟨x, rfl⟩
    obtain ⟨k, t, g1, g2⟩ := arg_tok (a := a) (by simpa using h1 a (by simp)) (hi a (by simp))
    refine ⟨(wordM a, k, t), [], by simp [callWs], fun y hy => ?_, fun ws hws => ?_⟩
    · simp only [List.mem_cons, List.not_mem_nil, or_false] at hy
      subst hy; exact g1
    · obtain ⟨w, r, rfl, e1, e2⟩ := map_cons_inv hws
      have : r = [] := List.map_eq_nil_iff.1 e2
      subst this
      obtain ⟨b1, b2, b3, b4, b5⟩ := g2 w e1
      refine ⟨w, [], rfl, fun y hy => ?_, ?_, ?_⟩
      · simp only [List.mem_cons, List.not_mem_nil, or_false] at hy
        subst hy; exact ⟨b3, b5⟩
      · unfold calE; rw [b4, b1]; rfl
      · unfold calC; rw [b4, b2, cond_false]
        unfold callEq
        show (([] : List UInt8) == [] && all2 argEq [a] ([a].map setP)) = true
        rw [all2_set]; rfl
  | false =>
    rw [hn, cond_false, Bool.and_eq_true, Bool.and_eq_true] at h2
    obtain ⟨⟨ha, h3⟩, h4⟩ := h2
    obtain ⟨n1, n2⟩ := ar_name ha
    refine ⟨(c.name, 1, c.name), ts, by unfold callWs; rw [hn]; simp [t1], fun y hy => ?_, fun ws hws => ?_⟩
    · rcases List.mem_cons.1 hy with rfl | hy
      · exact tok_name n1
      · exact t2 y hy
    · obtain ⟨w, r, rfl, e1, e2⟩ := map_cons_inv hws
      simp only [kx, Prod.mk.injEq] at e1
      obtain ⟨k1, k2⟩ := e1
      obtain ⟨c1, c2⟩ := t4 r e2
      have hN : isName w = true := by
        unfold isName
        rw [k1, k2]
        show (!bif (1 : Int) != 1 then true else decide (constM c.name ≥ 0)) = true
        rw [dF (by omega)]; rfl
      refine ⟨w, r, rfl, fun y hy => ?_, ?_, ?_⟩
      · rcases List.mem_cons.1 hy with rfl | hy
        · refine ⟨by rw [k1]; decide, by rw [k2]; have := n1.2.1; omega, by rw [k1]; intro h; exact absurd h (by decide)⟩
        · exact c2 y hy
      · unfold calE
        rw [hN, k2, ha, c1]
        simp only [cond_true, Bool.not_true, cond_false, List.length_map]
        unfold cCnt at h3 h4
        have hcount : (((c.args.length + (bif b then 1 else 0) : Nat) : Int)) = (bif b then (c.args.length : Int) + 1 else c.args.length) := by
          cases b
          · simp
          · simp
        rw [hcount]
        have hh : (decide ((bif b then (c.args.length : Int) + 1 else c.args.length) ≥ (ar c.name).1) && decide ((bif b then (c.args.length : Int) + 1 else c.args.length) ≤ (ar c.name).2.1)) = true := by
          rw [Bool.and_eq_true]; exact ⟨h3, h4⟩
        rw [hh]; rfl
      · unfold calC; rw [hN, k2, c1, cond_true]
        unfold callEq
        rw [beq_self_eq_true, all2_set]; rfl
end Go.Mu
set_option linter.unusedVariables false
set_option linter.unusedSimpArgs false
set_option maxRecDepth 100000
namespace Go.Mu
open Go Go.Proofs
def jW (ts : List (List UInt8)) : List UInt8 := (ts.map (32 :: ·)).flatten
theorem jW_cons (t : List UInt8) (ts : List (List UInt8)) : jW (t :: ts) = 32 :: (t ++ jW ts) := by simp [jW]
theorem jW_app (a b : List (List UInt8)) : jW (a ++ b) = jW a ++ jW b := by simp [jW]
theorem jW_stop (ts : List (List UInt8)) : stopB (jW ts) := by
  cases ts with
  | nil => exact .inl rfl
  | cons t ts => rw [jW_cons]; exact .inr ⟨_, rfl⟩
theorem join_jW (t : List UInt8) (ts : List (List UInt8)) : Lib.join (t :: ts) [32] = t ++ jW ts := by rw [Lib.join_cons]; rfl
theorem wds_tok {t text : List UInt8} {k : Int} (h : Tok t k text) (rest : List UInt8) (hr : stopB rest) (m p : Nat) : wdsM (m + 1) (t ++ rest) p = (⟨k, text, p⟩ :: (wdsM m rest (p + t.length)).1, (wdsM m rest (p + t.length)).2) := by
  obtain ⟨h1, h2, h3⟩ := h
  have e0 : (t ++ rest == []) = false := by
    cases t with
    | nil => exact absurd rfl h1
    | cons c t => rfl
  have e1 : (t ++ rest).getD 0 0 = t.getD 0 0 := by
    cases t with
    | nil => exact absurd rfl h1
    | cons c t => rfl
  have e2 : (t ++ rest).drop t.length = rest := List.drop_left
  rw [wdsM, e0, e1, h2, h3 rest hr]
  simp only [cond_false, beq_self_eq_true, cond_true, e2]
theorem wds_jW : ∀ (ts : List TK) (m p : Nat), (∀ x ∈ ts, TokOK x) → (jW (ts.map (·.1))).length ≤ m → ∃ ws, wdsM m (jW (ts.map (·.1))) p = (ws, none) ∧ ws.map kx = ts.map (·.2)
  | [], m, p, _, _ => by
    refine ⟨[], ?_, rfl⟩
    cases m with
    | zero => rfl
    | succ m => rw [wdsM]; rfl
  | x :: ts, m, p, h, hm => by
    have hx := h x (by simp)
    have hp : 0 < x.1.length := List.length_pos_iff.2 hx.1
    rw [List.map_cons, jW_cons] at hm ⊢
    rw [List.length_cons, List.length_append] at hm
    obtain ⟨m, rfl⟩ : ∃ q, m = q + 1 + 1 := ⟨m - 2, by omega⟩
    obtain ⟨ws, g1, g2⟩ := wds_jW ts m (p + 1 + x.1.length) (fun y hy => h y (by simp [hy])) (by omega)
    refine ⟨⟨x.2.1, x.2.2, p + 1⟩ :: ws, ?_, by rw [List.map_cons, List.map_cons, g2]; rfl⟩
    have e0 : (32 :: (x.1 ++ jW (ts.map (·.1))) == []) = false := rfl
    have e1 : blk ((32 :: (x.1 ++ jW (ts.map (·.1)))).getD 0 0) = true := by show blk 32 = true; decide
    rw [wdsM, e0, e1, cond_false, cond_true]
    show wdsM (m + 1) (x.1 ++ jW (ts.map (·.1))) (p + 1) = _
    rw [wds_tok hx _ (jW_stop _), g1]
def PW : List CallD → Bool → List WdD → Prop
  | [], _, _ => False
  | [c], b, ws => CW c b ws
  | c :: d :: cs, b, ws => ∃ ws1 bar ws2, ws = ws1 ++ bar :: ws2 ∧ CW c b ws1 ∧ bar.kind = 6 ∧ bar.text = [124] ∧ okWd bar ∧ PW (d :: cs) true ws2
theorem pipe_tok : ∀ (cs : List CallD) (c : CallD) (b : Bool), callB c b = true → (∀ d ∈ cs, callB d true = true) → (∀ d ∈ c :: cs, ∀ a ∈ d.args, inR a) →
    ∃ (x : TK) (ts : List TK), Lib.join ((c :: cs).map callW) [32, 124, 32] = x.1 ++ jW (ts.map (·.1)) ∧ (∀ y ∈ x :: ts, TokOK y) ∧ ∀ ws : List WdD, ws.map kx = (x :: ts).map (·.2) → PW (c :: cs) b ws
  | [], c, b, hc, _, hi => by
    obtain ⟨x, ts, h1, h2, h3⟩ := call_tok c b hc (hi c (by simp))
    refine ⟨x, ts, ?_, h2, h3⟩
    rw [List.map_cons, List.map_nil, Lib.join_one]
    unfold callW
    rw [h1, List.map_cons, join_jW]
  | d :: cs, c, b, hc, hd, hi => by
    obtain ⟨x, ts, h1, h2, h3⟩ := call_tok c b hc (hi c (by simp))
    obtain ⟨y, us, g1, g2, g3⟩ := pipe_tok cs d true (hd d (by simp)) (fun e he => hd e (by simp [he])) (fun e he => hi e (by simp only [List.mem_cons] at he ⊢; exact .inr he))
    refine ⟨x, ts ++ ([124], 6, [124]) :: y :: us, ?_, fun z hz => ?_, fun ws hws => ?_⟩
    · have e : Lib.join ((c :: d :: cs).map callW) [32, 124, 32] = callW c ++ ([32, 124, 32] ++ Lib.join ((d :: cs).map callW) [32, 124, 32]) := by
        rw [List.map_cons, Lib.join_cons, List.map_cons, Lib.join_cons]
        simp [Lib.joinTail]
      rw [e, g1]
      unfold callW
      rw [h1, List.map_cons, join_jW, List.map_append, jW_app, List.map_cons, jW_cons, List.map_cons, jW_cons]
      simp
    · simp only [List.mem_cons, List.mem_append] at hz
      rcases hz with rfl | hz | rfl | rfl | hz
      · exact h2 z (by simp)
      · exact h2 z (by simp [hz])
      · exact tok_bar
      · exact g2 z (by simp)
      · exact g2 z (by simp [hz])
    · obtain ⟨w, r, rfl, e1, e2⟩ := map_cons_inv hws
      rw [List.map_append, List.map_cons] at e2
      obtain ⟨r1, r2, rfl, e3, e4⟩ := List.map_eq_append_iff.1 e2
      obtain ⟨bar, ws2, rfl, e5, e6⟩ := map_cons_inv e4
      simp only [kx, Prod.mk.injEq] at e5
      refine ⟨w :: r1, bar, ws2, rfl, h3 _ (by rw [List.map_cons, List.map_cons, e1, e3]), e5.1, e5.2, ⟨by rw [e5.2]; show 1 ≤ 1048576; omega, fun h => by rw [e5.1] at h; exact absurd h (by decide)⟩, g3 _ e6⟩
theorem isSig_no {l : List WdD} (h : ∀ x ∈ l, x.kind ≠ 6 ∧ okWd x) : ∀ x ∈ l, isSig x = false := fun x hx => by
  unfold isSig
  simpa using (h x hx).1
theorem pPos_all : ∀ {l : List WdD}, (∀ x ∈ l, isSig x = false) → pPos l = l.length
  | [], _ => rfl
  | w :: l, h => by
    have := pPos_all (l := l) (fun x hx => h x (by simp [hx]))
    unfold pPos at this ⊢
    rw [List.findIdx_cons, h w (by simp), this]
    rfl
theorem pPos_bar : ∀ {l : List WdD} {bar : WdD} {r : List WdD}, (∀ x ∈ l, isSig x = false) → isSig bar = true → pPos (l ++ bar :: r) = l.length
  | [], bar, r, _, hb => by
    unfold pPos
    rw [List.nil_append, List.findIdx_cons, hb]
    rfl
  | w :: l, bar, r, h, hb => by
    have := pPos_bar (l := l) (bar := bar) (r := r) (fun x hx => h x (by simp [hx])) hb
    unfold pPos at this ⊢
    rw [List.cons_append, List.findIdx_cons, h w (by simp), this]
    rfl
theorem par_PW : ∀ (cs : List CallD) (ws : List WdD) (dn : List CallD) (m : Nat) (at_ : Int), PW cs (decide (0 < dn.length)) ws → ws.length ≤ m → dn.length + cs.length ≤ 16 →
    ∃ q, parM m ws dn at_ = (none, dn ++ q) ∧ all2 callEq cs q = true ∧ ws ≠ [] ∧ ∀ w ∈ ws, okWd w
  | [], ws, dn, m, at_, h, _, _ => h.elim
  | [c], ws, dn, m, at_, h, hm, hl => by
    obtain ⟨w, r, rfl, h1, h2, h3⟩ := h
    obtain ⟨m, rfl⟩ : ∃ q, m = q + 1 := ⟨m - 1, by rw [List.length_cons] at hm; omega⟩
    have hp := pPos_all (isSig_no h1)
    have h6 : ((hdW (w :: r)).kind == 6) = false := by
      have := (h1 w (by simp)).1
      simpa [hdW] using this
    have ht : (w :: r).take (w :: r).length = w :: r := List.take_length
    have hE : paE (w :: r) (decide (0 < dn.length)) = none := by unfold paE; rw [hp, ht]; exact h2
    have hC : paC (w :: r) = calC w r := by unfold paC; rw [hp, ht]; rfl
    refine ⟨[calC w r], ?_, by rw [all2, h3]; rfl, by simp, fun x hx => (h1 x hx).2⟩
    rw [parM, h6, cond_false, hE]
    simp only
    rw [List.length_cons, List.length_nil] at hl
    rw [dT (show dn.length < 16 by omega), Bool.not_true, cond_false, hp, beq_self_eq_true, cond_true, hC]
  | c :: d :: cs, ws, dn, m, at_, h, hm, hl => by
    obtain ⟨ws1, bar, ws2, rfl, ⟨w, r, rfl, h1, h2, h3⟩, k1, k2, k3, hP⟩ := h
    obtain ⟨m, rfl⟩ : ∃ q, m = q + 1 := ⟨m - 1, by rw [List.length_append, List.length_cons] at hm; omega⟩
    have hb : isSig bar = true := by unfold isSig; rw [k1]; rfl
    have hp := pPos_bar (r := ws2) (isSig_no h1) hb
    have h6 : ((hdW ((w :: r) ++ bar :: ws2)).kind == 6) = false := by
      have := (h1 w (by simp)).1
      simpa [hdW] using this
    have ht : ((w :: r) ++ bar :: ws2).take (w :: r).length = w :: r := List.take_left
    have hE : paE ((w :: r) ++ bar :: ws2) (decide (0 < dn.length)) = none := by unfold paE; rw [hp, ht]; exact h2
    have hC : paC ((w :: r) ++ bar :: ws2) = calC w r := by unfold paC; rw [hp, ht]; rfl
    have hlen : ((w :: r) ++ bar :: ws2).length = (w :: r).length + 1 + ws2.length := by simp only [List.length_append, List.length_cons]; omega
    have hd : ((w :: r) ++ bar :: ws2).drop ((w :: r).length + 1) = ws2 := by
      rw [show (w :: r) ++ bar :: ws2 = ((w :: r) ++ [bar]) ++ ws2 by simp, show (w :: r).length + 1 = ((w :: r) ++ [bar]).length by simp]
      exact List.drop_left
    have hg : ((w :: r) ++ bar :: ws2).getD (w :: r).length wd0 = bar := by
      rw [List.getD_eq_getElem?_getD, List.getElem?_append_right (Nat.le_refl _), Nat.sub_self]; rfl
    have hdn : decide (0 < (dn ++ [calC w r]).length) = true := dT (by rw [List.length_append]; show 0 < _ + 1; omega)
    rw [List.length_cons, List.length_cons] at hl
    obtain ⟨q, q1, q2, q3, q4⟩ := par_PW (d :: cs) ws2 (dn ++ [calC w r]) m at_ (by rw [hdn]; exact hP) (by rw [hlen] at hm; omega) (by simp only [List.length_append, List.length_cons, List.length_nil]; omega)
    have hw2 : 0 < ws2.length := List.length_pos_iff.2 q3
    refine ⟨calC w r :: q, ?_, by rw [all2, h3, q2]; rfl, by simp, fun x hx => ?_⟩
    · rw [parM, h6, cond_false, hE]
      simp only
      have hne : ((w :: r).length == ((w :: r) ++ bar :: ws2).length) = false := by
        rw [hlen]; simp only [beq_eq_false_iff_ne, ne_eq]; omega
      rw [dT (show dn.length < 16 by omega), Bool.not_true, cond_false, hp, hne, cond_false, hg, k2, hC, hd, dT (show (w :: r).length + 1 < ((w :: r) ++ bar :: ws2).length by rw [hlen]; omega), q1]
      simp
    · rcases List.mem_append.1 hx with hx | hx
      · exact (h1 x hx).2
      · rcases List.mem_cons.1 hx with rfl | hx
        · exact k3
        · exact q4 x hx
theorem pipe_round (p : List CallD) (h : pipeB p = true) (hi : ∀ c ∈ p, ∀ a ∈ c.args, inR a) : wordsE (printP p) = none ∧ (∀ w ∈ wordsOf (printP p), okWd w) ∧ ∃ q, parR (wordsOf (printP p)) 0 = (q, 0, 0) ∧ pipeEq p q = true := by
  unfold pipeB at h
  rw [Bool.and_eq_true, decide_eq_true_eq, Bool.not_eq_true', List.any_eq_false] at h
  obtain ⟨⟨h1, h2⟩, h3⟩ := h
  obtain ⟨c, cs, rfl⟩ : ∃ c cs, p = c :: cs := by
    cases p with
    | nil => simp at h1
    | cons c cs => exact ⟨c, cs, rfl⟩
  have hc : callB c false = true := by
    have := h3 0 (by simp)
    unfold cHit at this
    simpa using this
  have hd : ∀ d ∈ cs, callB d true = true := fun d hd => by
    obtain ⟨i, hi, rfl⟩ := List.mem_iff_getElem.1 hd
    have := h3 (i + 1) (by simp; omega)
    unfold cHit at this
    rw [List.getD_cons_succ, List.getD_eq_getElem?_getD, List.getElem?_eq_getElem hi] at this
    simpa using this
  obtain ⟨x, ts, t1, t2, t3⟩ := pipe_tok cs c false hc hd hi
  have hP : printP (c :: cs) = x.1 ++ jW (ts.map (·.1)) := t1
  have hx := t2 x (by simp)
  have hpos : 0 < x.1.length := List.length_pos_iff.2 hx.1
  obtain ⟨m, hm⟩ : ∃ m, (printP (c :: cs)).length = m + 1 := ⟨(printP (c :: cs)).length - 1, by rw [hP, List.length_append]; omega⟩
  obtain ⟨ws, g1, g2⟩ := wds_jW ts m (0 + x.1.length) (fun y hy => t2 y (by simp [hy])) (by rw [hP, List.length_append] at hm; omega)
  have hw : wdsM (printP (c :: cs)).length (printP (c :: cs)) 0 = (⟨x.2.1, x.2.2, 0⟩ :: ws, none) := by
    rw [hm, hP, wds_tok hx _ (jW_stop _), g1]
  have hW : PW (c :: cs) (decide (0 < ([] : List CallD).length)) (⟨x.2.1, x.2.2, 0⟩ :: ws) := t3 _ (by rw [List.map_cons, List.map_cons, g2]; rfl)
  obtain ⟨q, q1, q2, q3, q4⟩ := par_PW (c :: cs) _ [] _ 0 hW (Nat.le_refl _) (by rw [List.length_nil, Nat.zero_add]; exact h2)
  have e1 : wordsOf (printP (c :: cs)) = ⟨x.2.1, x.2.2, 0⟩ :: ws := by unfold wordsOf; rw [hw]
  have e2 : wordsE (printP (c :: cs)) = none := by unfold wordsE; rw [hw]
  refine ⟨e2, by rw [e1]; exact q4, q, ?_, q2⟩
  rw [e1]
  unfold parR
  rw [q1]
  rfl
end Go.Mu
set_option linter.unusedVariables false
set_option linter.unusedSimpArgs false
set_option maxRecDepth 100000
namespace Go.Mu
open Go Go.Proofs
end Go.Mu
set_option linter.unusedVariables false
set_option linter.unusedSimpArgs false
set_option maxRecDepth 100000
namespace Go.Mu
open Go Go.Proofs
def sumL (l : List (List UInt8)) : Nat := (l.map (fun s => s.length + 1)).sum
def aW (a : ArgD) : Nat := a.name.length + sumL a.path + a.text.length
def cW (c : CallD) : Nat := c.name.length + (c.args.map (fun a => aW a + 1)).sum
def pW (l : List CallD) : Nat := (l.map (fun c => cW c + 1)).sum
theorem join_le (sep : List UInt8) : ∀ l : List (List UInt8), (Lib.join l sep).length ≤ (l.map (fun s => s.length + sep.length)).sum
  | [] => by rw [Lib.join_nil]; exact Nat.le_refl _
  | s :: l => by
    rw [Lib.join_cons, List.length_append]
    have : (Lib.joinTail sep l).length ≤ (l.map (fun s => s.length + sep.length)).sum := by
      unfold Lib.joinTail
      induction l with
      | nil => exact Nat.le_refl _
      | cons x l ih => simp only [List.map_cons, List.flatten_cons, List.length_append, List.sum_cons]; omega
    simp only [List.map_cons, List.sum_cons]; omega
theorem sumL_len (l : List (List UInt8)) : l.length ≤ sumL l := by
  unfold sumL
  induction l with
  | nil => exact Nat.le_refl _
  | cons x l ih => simp only [List.map_cons, List.sum_cons, List.length_cons]; omega
theorem join1 (l : List (List UInt8)) : (Lib.join l [46]).length ≤ sumL l := join_le [46] l
theorem wordM_len (a : ArgD) : (wordM a).length ≤ 2 * aW a + 30 := by
  have j1 := join1 a.path
  have j2 := join1 ((36 :: a.name) :: a.path)
  have e2 : sumL ((36 :: a.name) :: a.path) = a.name.length + 2 + sumL a.path := by simp [sumL]
  have d := digsF_len 19 a.int.natAbs []
  have q := qu_len a.text
  unfold wordM aW
  have hp : (printM a.int).length ≤ 20 := by
    simp only [List.length_nil, Nat.zero_add] at d
    unfold printM
    cases decide (a.int < 0)
    · simp only [cond_false]; omega
    · simp only [cond_true, List.length_cons]; omega
  have hq : (quoteM a.text).length ≤ 2 * a.text.length + 2 := by
    unfold quoteM
    rw [List.length_cons, List.length_append]
    show _ + 1 + 1 ≤ _
    omega
  cases a.kind == 1
  · simp only [cond_false]
    cases a.kind == 2
    · simp only [cond_false]
      cases a.kind == 3
      · simp only [cond_false]
        cases a.kind == 4
        · simp only [cond_false]
          cases a.kind == 5
          · simp only [cond_false]
            cases a.kind == 6
            · simp only [cond_false]
              cases a.kind == 7
              · simp only [cond_false, List.length_nil]; omega
              · simp only [cond_true]; show 3 ≤ _; omega
            · simp only [cond_true]; show 5 ≤ _; omega
          · simp only [cond_true]; show 4 ≤ _; omega
        · simp only [cond_true]; omega
      · simp only [cond_true]; omega
    · simp only [cond_true]; omega
  · simp only [cond_true, List.length_cons]; omega
theorem okW_of {a : ArgD} (h : aW a ≤ 1048576) (hi : inR a) : okW a := by
  have j2 := join1 ((36 :: a.name) :: a.path)
  have e2 : sumL ((36 :: a.name) :: a.path) = a.name.length + 2 + sumL a.path := by simp [sumL]
  have := sumL_len a.path
  unfold aW at h
  exact ⟨by omega, by omega, hi.1, hi.2, by omega⟩
theorem sum_le {α : Type} {f g : α → Nat} {k : Nat} : ∀ l : List α, (∀ x ∈ l, f x ≤ k * g x) → (l.map f).sum ≤ k * (l.map g).sum
  | [], _ => Nat.zero_le _
  | x :: l, h => by
    have := sum_le l (fun y hy => h y (by simp [hy]))
    have := h x (by simp)
    simp only [List.map_cons, List.sum_cons, Nat.mul_add]
    omega
theorem mem_sum {α : Type} (f : α → Nat) : ∀ (l : List α) (x : α), x ∈ l → f x ≤ (l.map f).sum
  | y :: l, x, h => by
    simp only [List.map_cons, List.sum_cons]
    rcases List.mem_cons.1 h with rfl | h
    · omega
    · have := mem_sum f l x h; omega
theorem len_sum {α : Type} (f : α → Nat) : ∀ l : List α, l.length ≤ (l.map (fun a => f a + 1)).sum
  | [] => Nat.le_refl _
  | x :: l => by
    have := len_sum f l
    simp only [List.map_cons, List.sum_cons, List.length_cons]; omega
theorem callW_len (c : CallD) : (callW c).length ≤ 31 * (cW c + 1) := by
  unfold callW
  refine Nat.le_trans (join_le [32] _) ?_
  unfold callWs cW
  rw [List.map_append, List.sum_append, List.map_map]
  have h1 : ((bif c.name == [] then ([] : List (List UInt8)) else [c.name]).map (fun s => s.length + ([32] : List UInt8).length)).sum ≤ c.name.length + 1 := by
    cases c.name == []
    · simp
    · simp
  have h2 := sum_le (f := (fun s => s.length + ([32] : List UInt8).length) ∘ wordM) (g := fun a => aW a + 1) (k := 31) c.args (fun a _ => by
    have := wordM_len a
    show (wordM a).length + 1 ≤ _
    omega)
  omega
theorem printP_len (l : List CallD) : (printP l).length ≤ 34 * pW l := by
  unfold printP
  refine Nat.le_trans (join_le [32, 124, 32] _) ?_
  rw [List.map_map]
  exact sum_le (f := (fun s => s.length + ([32, 124, 32] : List UInt8).length) ∘ callW) (g := fun c => cW c + 1) (k := 34) l (fun c _ => by
    have := callW_len c
    show (callW c).length + 3 ≤ _
    omega)
end Go.Mu
set_option linter.unusedVariables false
set_option linter.unusedSimpArgs false
set_option maxRecDepth 100000
namespace Go.Mu
open Go Go.Proofs
noncomputable def layAl9 : Lay := (Lay.nil.addF 16 wordsTold).addF 12 parTold
theorem layAl9_ok : layAl9.OK Tryd.prog := (Lay.nil_ok.addF wordsTold_ok).addF parTold_ok
theorem alive19_fun (k : Out → Ans) : iFun Tryd.prog (layAl9.hd Tryd.prog) layAl9.fhs 0 10 [] [] k = (
  bif
  tst
  (parOkR
  (AVal.list false 3 fun (i : Nat) =>
  encWd 0 ((wordsOf [46, 97, 32, 124, 32, 108, 101, 110]).getD i wd0)) ∧
  SubL
  [AVal.list false 3 fun (i : Nat) =>
  encWd 0 ((wordsOf [46, 97, 32, 124, 32, 108, 101, 110]).getD i wd0),
  AVal.int IntKind.i64 0]
  [encWqsR
  (AVal.list false 3 fun (i : Nat) =>
  encWd 0 ((wordsOf [46, 97, 32, 124, 32, 108, 101, 110]).getD i wd0)),
  AVal.int IntKind.i64 0] ∧
  ([] : Heap) = []) then
  k (Out.ret (AVal.bool true) [])
  else none) := by kernel_rfl
theorem decWd_enc (w : WdD) : decWq (encWd 0 w) = w := by
  show (⟨w.kind, w.text, (0 + (w.at_ : Int)).toNat⟩ : WdD) = w
  rw [Int.zero_add, Int.toNat_natCast]
theorem wds_dec (l : List WdD) : decL decWq (AVal.list false l.length fun (i : Nat) => encWd 0 (l.getD i wd0)) = l := decL_encL decWd_enc l
theorem wds_enc (l : List WdD) : encWqsR (AVal.list false l.length fun (i : Nat) => encWd 0 (l.getD i wd0)) = AVal.list false l.length fun (i : Nat) => encWq (l.getD i wd0) := by
  unfold encWqsR; rw [wds_dec]; rfl
theorem wds_sub (l : List WdD) (v : AVal) : SubL [AVal.list false l.length fun (i : Nat) => encWd 0 (l.getD i wd0), v] [encWqsR (AVal.list false l.length fun (i : Nat) => encWd 0 (l.getD i wd0)), v] := by
  rw [wds_enc]
  refine .cons (Sub.list (fun h => h) (fun i hi => ?_)) (.cons (.refl _) .nil)
  unfold encWd encWq
  rw [Int.zero_add]
  exact .refl _
theorem alive19_words : wordsOf [46, 97, 32, 124, 32, 108, 101, 110] = [⟨2, [46, 97], 0⟩, ⟨6, [124], 3⟩, ⟨1, [108, 101, 110], 5⟩] := by kernel_rfl
theorem alive19_ok : CallOK Tryd.prog 10 [] [] (.ret (.bool true) []) := by
  refine layAl9_ok.callF (G := []) rfl (fun k => (alive19_fun k).trans ?_)
  have hs := wds_sub (wordsOf [46, 97, 32, 124, 32, 108, 101, 110]) (.int .i64 0)
  have hd := wds_dec (wordsOf [46, 97, 32, 124, 32, 108, 101, 110])
  have hl : (wordsOf [46, 97, 32, 124, 32, 108, 101, 110]).length = 3 := by rw [alive19_words]; rfl
  rw [hl] at hs hd
  have p1 : parOkR (AVal.list false 3 fun (i : Nat) => encWd 0 ((wordsOf [46, 97, 32, 124, 32, 108, 101, 110]).getD i wd0)) := by
    refine ⟨by rw [hd, hl]; omega, ?_⟩
    rw [hd, alive19_words]
    intro w hw
    simp only [List.mem_cons, List.not_mem_nil, or_false] at hw
    rcases hw with rfl | rfl | rfl
    · exact ⟨by show 2 ≤ 1048576; omega, fun h => by cases h⟩
    · exact ⟨by show 1 ≤ 1048576; omega, fun h => by cases h⟩
    · exact ⟨by show 3 ≤ 1048576; omega, fun h => by cases h⟩
  rw [tst_true ⟨p1, hs, rfl⟩]
  rfl
def alive19Told : FSp := mkFS [] (fun _ => true) (fun _ k => k (.ret (.bool true) []))
theorem alive19Told_ok : ∀ xs H k out, alive19Told xs H k = some out → ∃ o, CallOK Tryd.prog 10 xs H o ∧ k o = some out := mkFS_ok fun ys xs e h => by
  obtain rfl : xs = [] := e
  exact ⟨_, fun k => rfl, alive19_ok⟩
noncomputable def layBk : Lay := ((((((layAl9.addF 10 alive19Told).addF 17 prtTold).addF 26 chkTold).addF 18 mayTold).addF 15 sameTold))
theorem layBk_ok : layBk.OK Tryd.prog := ((((layAl9_ok.addF alive19Told_ok).addF prtTold_ok).addF chkTold_ok).addF mayTold_ok).addF spTold_ok
theorem all2_ok {α : Type} {f : α → α → Bool} {P : α → Prop} (h : ∀ x y, f x y = true → P x → P y) : ∀ {a b : List α}, all2 f a b = true → a.length = b.length ∧ ((∀ x ∈ a, P x) → ∀ y ∈ b, P y)
  | [], [], _ => ⟨rfl, fun _ y hy => (by cases hy)⟩
  | [], y :: b, h2 => (by cases h2)
  | x :: a, [], h2 => (by cases h2)
  | x :: a, y :: b, h2 => by
    rw [all2, Bool.and_eq_true] at h2
    obtain ⟨g1, g2⟩ := all2_ok h h2.2
    refine ⟨by rw [List.length_cons, List.length_cons, g1], fun hP z hz => ?_⟩
    rcases List.mem_cons.1 hz with rfl | hz
    · exact h _ _ h2.1 (hP x (by simp))
    · exact g2 (fun w hw => hP w (by simp [hw])) z hz
theorem all2_eqS : ∀ {a b : List (List UInt8)}, all2 eqS a b = true → a = b
  | [], [], _ => rfl
  | [], y :: b, h2 => (by cases h2)
  | x :: a, [], h2 => (by cases h2)
  | x :: a, y :: b, h2 => by
    rw [all2, Bool.and_eq_true] at h2
    have e1 : x = y := by simpa [eqS] using h2.1
    rw [e1, all2_eqS h2.2]
theorem arg_okEq (a b : ArgD) (h : argEq a b = true) (ho : okArg a) : okArg b := by
  unfold argEq at h
  simp only [Bool.and_eq_true, beq_iff_eq] at h
  obtain ⟨⟨⟨⟨h1, h2⟩, h3⟩, h4⟩, h5⟩ := h
  have h6 := all2_eqS h5
  unfold okArg at ho ⊢
  rw [← h2, ← h4, ← h6]
  exact ho
theorem call_okEq (a b : CallD) (h : callEq a b = true) (ho : okCall a) : okCall b := by
  unfold callEq at h
  rw [Bool.and_eq_true, beq_iff_eq] at h
  obtain ⟨h1, h2⟩ := h
  obtain ⟨g1, g2⟩ := all2_ok arg_okEq h2
  unfold okCall at ho ⊢
  rw [← h1, ← g1]
  exact ⟨ho.1, g2 ho.2.1, ho.2.2⟩
theorem pipe_okEq {a b : List CallD} (h : pipeEq a b = true) (ho : okPipe a) : okPipe b := by
  obtain ⟨g1, g2⟩ := all2_ok call_okEq h
  unfold okPipe at ho ⊢
  rw [← g1]
  exact ⟨ho.1, g2 ho.2⟩
theorem wdsM_len : ∀ (m : Nat) (t : List UInt8) (p : Nat), (wdsM m t p).1.length ≤ m
  | 0, _, _ => Nat.le_refl _
  | m + 1, t, p => by
    rw [wdsM]
    cases t == []
    · simp only [cond_false]
      cases blk (t.getD 0 0)
      · simp only [cond_false]
        cases (oneM t).e == 0
        · simp only [cond_false, List.length_nil]; omega
        · simp only [cond_true, List.length_cons]
          have := wdsM_len m (t.drop (oneM t).len) (p + (oneM t).len)
          omega
      · simp only [cond_true]
        have := wdsM_len m (t.drop 1) (p + 1)
        omega
    · simp only [cond_true, List.length_nil]; omega
theorem wordsOf_len (s : List UInt8) : (wordsOf s).length ≤ s.length := wdsM_len _ _ _
end Go.Mu
set_option linter.unusedVariables false
set_option linter.unusedSimpArgs false
set_option maxRecDepth 100000
namespace Go.Mu
open Go Go.Proofs
theorem scan_runs {turn : St → Kont → Ans} {n : Nat} {l lx : List Nat} {vs ws : Nat → List AVal} {H : Heap} {e : Nat} {s : List UInt8} {p : UInt8 → Bool}
    (h : ∀ (i : Nat) (D : List (FuncId × List AVal)) (k : Kont), i ≤ s.length → turn (stL n l (vs i) [] [] H D) k = bif decide (i < s.length) && p (s.getD i 0) then k .normal (stL n l (vs (i + 1)) [] [] H D) else k (.exit e) (stL n lx (ws i) [] [] H D)) :
    ∀ (m i : Nat), s.length - i ≤ m → i ≤ s.length → LoopRuns turn n l [] lx [] (vs i) [] H (.exit e) (ws (i + ((s.drop i).takeWhile p).length)) [] H
  | 0, i, hm, hi => by
    have e0 : s.drop i = [] := List.drop_eq_nil_of_le (by omega)
    rw [e0]
    refine .stop (by simp) (fun D k => ?_)
    rw [h i D k hi, dF (by omega)]
    rfl
  | m + 1, i, hm, hi => by
    by_cases hlt : i < s.length
    · have ed := drop_cons_of s i 0 hlt
      rw [ed, List.takeWhile_cons]
      cases hp : p (s.getD i 0) with
      | true =>
        have ih := scan_runs h m (i + 1) (by omega) (by omega)
        rw [show i + 1 + ((s.drop (i + 1)).takeWhile p).length = i + (s.getD i 0 :: (s.drop (i + 1)).takeWhile p).length by rw [List.length_cons]; omega] at ih
        refine .step (fun D k => ?_) ih
        rw [h i D k hi, dT hlt, hp]
        rfl
      | false =>
        refine .stop (by simp) (fun D k => ?_)
        rw [h i D k hi, hp, Bool.and_false]
        rfl
    · have e0 : s.drop i = [] := List.drop_eq_nil_of_le (by omega)
      rw [e0]
      refine .stop (by simp) (fun D k => ?_)
      rw [h i D k hi, dF hlt]
      rfl
theorem rBlank_fun (n : Int) (k : Out → Ans) : iFun Tryd.prog (Lay.nil.hd Tryd.prog) Lay.nil.fhs 0 131 [.int .u8 n] [] k = (
  k
  (Out.ret
  (AVal.bool
  (bif bif bif bif n == 32 then true else n == 9 then true else n == 10 then true else n == 12 then true
  else n == 13))
      [])) := by kernel_rfl
theorem rLetter_fun (n : Int) (k : Out → Ans) : iFun Tryd.prog (Lay.nil.hd Tryd.prog) Lay.nil.fhs 0 148 [.int .u8 n] [] k = (
  k
  (Out.ret
  (AVal.bool
  (bif bif decide (n ≥ 97) then decide (n ≤ 122) else false then true
  else bif decide (n ≥ 65) then decide (n ≤ 90) else false))
      [])) := by kernel_rfl
theorem rDigit_fun (n : Int) (k : Out → Ans) : iFun Tryd.prog (Lay.nil.hd Tryd.prog) Lay.nil.fhs 0 135 [.int .u8 n] [] k = (
  k (Out.ret (AVal.bool (bif decide (n ≥ 48) then decide (n ≤ 57) else false)) [])) := by kernel_rfl
def rBlk (n : Int) : Bool := bif bif bif bif n == 32 then true else n == 9 then true else n == 10 then true else n == 12 then true else n == 13
def rLtr (n : Int) : Bool := bif bif decide (n ≥ 97) then decide (n ≤ 122) else false then true else bif decide (n ≥ 65) then decide (n ≤ 90) else false
def rDgt (n : Int) : Bool := bif decide (n ≥ 48) then decide (n ≤ 57) else false
theorem rBlk_eq (c : UInt8) : rBlk (c.toNat : Int) = blk c := by
  have h : ∀ n : Fin 256, rBlk ((UInt8.ofNat n).toNat : Int) = blk (UInt8.ofNat n) := by decide +kernel
  have := h ⟨c.toNat, c.toNat_lt⟩
  simpa using this
theorem rLtr_eq (c : UInt8) : rLtr (c.toNat : Int) = ltr c := by
  have h : ∀ n : Fin 256, rLtr ((UInt8.ofNat n).toNat : Int) = ltr (UInt8.ofNat n) := by decide +kernel
  have := h ⟨c.toNat, c.toNat_lt⟩
  simpa using this
theorem rDgt_eq (c : UInt8) : rDgt (c.toNat : Int) = dig c := by
  have h : ∀ n : Fin 256, rDgt ((UInt8.ofNat n).toNat : Int) = dig (UInt8.ofNat n) := by decide +kernel
  have := h ⟨c.toNat, c.toNat_lt⟩
  simpa using this
def octTold (p : Int → Bool) : FSp := mkFS [.i .u8] (fun _ => true) (fun xs k => k (.ret (.bool (p (aI xs 0))) []))
theorem octTold_ok {f : FuncId} {p : Int → Bool} (h : ∀ n k, iFun Tryd.prog (Lay.nil.hd Tryd.prog) Lay.nil.fhs 0 f [.int .u8 n] [] k = k (.ret (.bool (p n)) [])) : ∀ xs H k out, octTold p xs H k = some out → ∃ o, CallOK Tryd.prog f xs H o ∧ k o = some out := mkFS_ok fun ys xs e hx => by
  obtain ⟨n, rfl⟩ : ∃ n, xs = [.int .u8 n] := ⟨_, e⟩
  exact ⟨_, fun k => rfl, Lay.nil_ok.callF (G := []) rfl (fun k => h n k)⟩
noncomputable def layR1 : Lay := ((Lay.nil.addF 131 (octTold rBlk)).addF 148 (octTold rLtr)).addF 135 (octTold rDgt)
theorem layR1_ok : layR1.OK Tryd.prog := ((Lay.nil_ok.addF (octTold_ok rBlank_fun)).addF (octTold_ok rLetter_fun)).addF (octTold_ok rDigit_fun)
/- skip -/
structure SkA where
  s : List UInt8
  i : Nat
  H : Heap
def skN (s : List UInt8) (i : Nat) : Nat := i + ((s.drop i).takeWhile blk).length
noncomputable def skSp (R : List UInt8 → Nat → Nat) : LSp := mkL (fun vs _ H => SkA.mk (aS vs 0) (aI vs 1).toNat H) (fun a => a.i ≤ a.s.length ∧ a.s.length ≤ 1099511627776) (fun a => [.str a.s, .int .i64 a.i]) (fun _ => []) (fun a => a.H) (fun a k => k (.exit 0) [.int .i64 (R a.s a.i : Nat)] [] a.H)
noncomputable def skFH : FH := .of [(1, loopSpec 18 [0,1] [] [1] [] (skSp skN))]
theorem sk_step (s : List UInt8) (i : Int) (H : Heap) (D : List (FuncId × List AVal)) (k : Kont) : lturn Tryd.prog layR1 skFH 75 1 [0,1] [] [1] [] (stL 18 [0,1] [.str s, .int .i64 i] [] [] H D) k = (
 let c0 : Bool := decide (i < (↑s.length : Int));
  bif decide (0 ≤ i) && c0 || !c0 then
  bif bif c0 then rBlk (↑(s.getD i.toNat 0).toNat : Int) else false then
  k AExit.normal (stL 18 [0, 1] [AVal.str s, AVal.int IntKind.i64 (IntKind.i64.wrap (i + 1))] [] [] H D)
  else k (AExit.exit 0) (stL 18 [1] [AVal.int IntKind.i64 i] [] [] H D)
  else none) := by kernel_rfl
theorem begin_fun (s : List UInt8) (i : Int) (k : Out → Ans) : iFun Tryd.prog (layR1.hd Tryd.prog) layR1.fhs 0 132 [.str s, .int .i64 i] [] k = (
 let c0 : Bool := decide (i < (↑s.length : Int));
 let c1 : Bool := decide (0 ≤ i) && c0;
 let n2 : Int := (↑(s.getD i.toNat 0).toNat : Int);
 let c3 : Bool := rLtr n2;
  bif c1 || !c0 then
  bif c1 || !(c0 && !c3) then k (Out.ret (AVal.bool (bif c0 then bif c3 then true else n2 == 95 else false)) [])
  else none
  else none) := by kernel_rfl
theorem sk_round (s : List UInt8) (hs : s.length ≤ 1099511627776) (H : Heap) (i : Nat) (D : List (FuncId × List AVal)) (k : Kont) (hi : i ≤ s.length) : lturn Tryd.prog layR1 skFH 75 1 [0,1] [] [1] [] (stL 18 [0,1] [.str s, .int .i64 (i : Nat)] [] [] H D) k =
    bif decide (i < s.length) && blk (s.getD i 0) then k .normal (stL 18 [0,1] [.str s, .int .i64 ((i + 1 : Nat) : Int)] [] [] H D) else k (.exit 0) (stL 18 [1] [.int .i64 (i : Nat)] [] [] H D) := by
  refine (sk_step s i H D k).trans ?_
  by_cases h : i < s.length
  · simp only [dT h, dT (show (i : Int) < s.length by omega), dT (show (0 : Int) ≤ i by omega), rBlk_eq, wrap_add1 (show i < 4611686018427387904 by omega), Int.toNat_natCast, Bool.and_self, Bool.true_or, cond_true, Bool.true_and]
  · simp only [dF h, dF (show ¬ (i : Int) < s.length by omega), Bool.and_false, Bool.not_false, Bool.or_true, cond_true, cond_false, Bool.false_and]
theorem skSp_ok : SpOK (lturn Tryd.prog layR1 skFH 75 1 [0,1] [] [1] []) 18 [0,1] [] [1] [] (skSp skN) := mkL_ok fun a h => ⟨_, _, _, _, fun k => rfl,
  scan_runs (vs := fun i => [.str a.s, .int .i64 (i : Nat)]) (ws := fun i => [.int .i64 (i : Nat)]) (fun i D k hi => sk_round a.s h.2 a.H i D k hi) _ a.i (Nat.le_refl _) h.1⟩
noncomputable def layR2 : Lay := layR1.addL 75 skFH
theorem layR2_ok : layR2.OK Tryd.prog := layR1_ok.loop1 (id := 1) (by kernel_rfl) (by kernel_rfl) (by kernel_rfl) skSp_ok
noncomputable def layR2' (R : List UInt8 → Nat → Nat) : Lay := layR1.addL 75 (.of [(1, loopSpec 18 [0,1] [] [1] [] (skSp R))])
theorem sk_fun (R : List UInt8 → Nat → Nat) (s : List UInt8) (i : Int) (k : Out → Ans) : iFun Tryd.prog ((layR2' R).hd Tryd.prog) (layR2' R).fhs 0 75 [.str s, .int .i64 i] [] k = (
  bif
  tst
  ((i.toNat ≤ s.length ∧ s.length ≤ 1099511627776) ∧
  SubTL [AVal.str s, AVal.int IntKind.i64 i] [AVal.str s, AVal.int IntKind.i64 (↑i.toNat : Int)] ∧
  ([] : List (List AVal)) = [] ∧ ([] : Heap) = []) then
  k (Out.ret (AVal.int IntKind.i64 (↑(R s i.toNat) : Int)) [])
  else none) := by kernel_rfl
def bgB (s : List UInt8) (i : Nat) : Bool := decide (i < s.length) && (ltr (s.getD i 0) || s.getD i 0 == 95)
theorem begin_run (s : List UInt8) (i : Nat) (k : Out → Ans) : iFun Tryd.prog (layR1.hd Tryd.prog) layR1.fhs 0 132 [.str s, .int .i64 (i : Nat)] [] k = k (.ret (.bool (bgB s i)) []) := by
  refine (begin_fun s i k).trans ?_
  unfold bgB
  by_cases h : i < s.length
  · simp only [dT h, dT (show (i : Int) < s.length by omega), dT (show (0 : Int) ≤ i by omega), rLtr_eq, Int.toNat_natCast, Bool.and_self, Bool.true_or, cond_true, Bool.true_and, eqc (show 95 < 256 by decide), bif_or]
  · simp only [dF h, dF (show ¬ (i : Int) < s.length by omega), Bool.and_false, Bool.not_false, Bool.or_true, cond_true, cond_false, Bool.false_and]
def beginTold : FSp := mkFS [.s, .i .i64] (fun xs => decide (0 ≤ aI xs 1)) (fun xs k => k (.ret (.bool (bgB (aS xs 0) (aI xs 1).toNat)) []))
theorem beginTold_ok : ∀ xs H k out, beginTold xs H k = some out → ∃ o, CallOK Tryd.prog 132 xs H o ∧ k o = some out := mkFS_ok fun ys xs e h => by
  obtain ⟨s, n, rfl⟩ : ∃ s n, xs = [.str s, .int .i64 n] := ⟨_, _, e⟩
  replace h : 0 ≤ n := of_decide_eq_true h
  obtain ⟨i, rfl⟩ : ∃ i : Nat, n = i := ⟨n.toNat, by omega⟩
  exact ⟨_, fun k => rfl, layR1_ok.callF (G := []) rfl (fun k => begin_run s i k)⟩
/- name -/
noncomputable def layR3 : Lay := layR1.addF 132 beginTold
theorem layR3_ok : layR3.OK Tryd.prog := layR1_ok.addF beginTold_ok
def rnN (s : List UInt8) (i : Nat) : Nat := i + ((s.drop i).takeWhile nmC).length
noncomputable def nmFH (R : List UInt8 → Nat → Nat) : FH := .of [(3, loopSpec 27 [0,1] [] [1] [] (skSp R))]
theorem nm_step (s : List UInt8) (i : Int) (H : Heap) (D : List (FuncId × List AVal)) (k : Kont) : lturn Tryd.prog layR3 (nmFH rnN) 133 3 [0,1] [] [1] [] (stL 27 [0,1] [.str s, .int .i64 i] [] [] H D) k = (
 let c0 : Bool := decide (0 ≤ i);
 let c1 : Bool := decide (i < (↑s.length : Int));
  bif c0 then
  bif c0 && c1 || !(c1 && !bgB s i.toNat) then
  bif bif c1 then bif bgB s i.toNat then true else rDgt (↑(s.getD i.toNat 0).toNat : Int) else false then
  k AExit.normal (stL 27 [0, 1] [AVal.str s, AVal.int IntKind.i64 (IntKind.i64.wrap (i + 1))] [] [] H D)
  else k (AExit.exit 0) (stL 27 [1] [AVal.int IntKind.i64 i] [] [] H D)
  else none
  else none) := by kernel_rfl
noncomputable def layR4' (R : List UInt8 → Nat → Nat) : Lay := layR3.addL 133 (nmFH R)
theorem nm_fun (R : List UInt8 → Nat → Nat) (s : List UInt8) (i : Int) (k : Out → Ans) : iFun Tryd.prog ((layR4' R).hd Tryd.prog) (layR4' R).fhs 0 133 [.str s, .int .i64 i] [] k = (
  bif decide (0 ≤ i) then
  bif !bgB s i.toNat then k (Out.ret (AVal.int IntKind.i64 0) [])
  else
  bif
  tst
  ((i.toNat ≤ s.length ∧ s.length ≤ 1099511627776) ∧
  SubTL [AVal.str s, AVal.int IntKind.i64 i] [AVal.str s, AVal.int IntKind.i64 (↑i.toNat : Int)] ∧
  ([] : List (List AVal)) = [] ∧ ([] : Heap) = []) then
  k (Out.ret (AVal.int IntKind.i64 (↑(R s i.toNat) : Int)) [])
  else none
  else none) := by kernel_rfl
end Go.Mu
set_option linter.unusedVariables false
set_option linter.unusedSimpArgs false
set_option maxRecDepth 100000
namespace Go.Mu
open Go Go.Proofs
def posTold (N : List UInt8 → Nat → Nat) : FSp := mkFS [.s, .i .i64] (fun xs => decide (0 ≤ aI xs 1 ∧ (aI xs 1).toNat ≤ (aS xs 0).length ∧ (aS xs 0).length ≤ 1099511627776)) (fun xs k => k (.ret (.int .i64 (N (aS xs 0) (aI xs 1).toNat : Nat)) []))
theorem posTold_ok {f : FuncId} {N : List UInt8 → Nat → Nat} (h : ∀ (s : List UInt8) (i : Nat), i ≤ s.length → s.length ≤ 1099511627776 → CallOK Tryd.prog f [.str s, .int .i64 (i : Nat)] [] (.ret (.int .i64 (N s i : Nat)) [])) : ∀ xs H k out, posTold N xs H k = some out → ∃ o, CallOK Tryd.prog f xs H o ∧ k o = some out := mkFS_ok fun ys xs e hx => by
  obtain ⟨s, n, rfl⟩ : ∃ s n, xs = [.str s, .int .i64 n] := ⟨_, _, e⟩
  replace hx : 0 ≤ n ∧ n.toNat ≤ s.length ∧ s.length ≤ 1099511627776 := of_decide_eq_true hx
  obtain ⟨i, rfl⟩ : ∃ i : Nat, n = i := ⟨n.toNat, by omega⟩
  exact ⟨_, fun k => rfl, h s i hx.2.1 hx.2.2⟩
theorem skTold_ok : ∀ xs H k out, posTold skN xs H k = some out → ∃ o, CallOK Tryd.prog 75 xs H o ∧ k o = some out := posTold_ok fun s i h1 h2 =>
  layR2_ok.callF (G := []) rfl (fun k => (sk_fun skN s i k).trans ((congrArg (fun c => cond c _ none) (tst_true ⟨⟨h1, h2⟩, .refl _, rfl, rfl⟩)).trans rfl))
theorem nm_round (s : List UInt8) (hs : s.length ≤ 1099511627776) (H : Heap) (i : Nat) (D : List (FuncId × List AVal)) (k : Kont) (hi : i ≤ s.length) : lturn Tryd.prog layR3 (nmFH rnN) 133 3 [0,1] [] [1] [] (stL 27 [0,1] [.str s, .int .i64 (i : Nat)] [] [] H D) k =
    bif decide (i < s.length) && nmC (s.getD i 0) then k .normal (stL 27 [0,1] [.str s, .int .i64 ((i + 1 : Nat) : Int)] [] [] H D) else k (.exit 0) (stL 27 [1] [.int .i64 (i : Nat)] [] [] H D) := by
  refine (nm_step s i H D k).trans ?_
  unfold bgB nmC
  by_cases h : i < s.length
  · simp only [dT h, dT (show (i : Int) < s.length by omega), dT (show (0 : Int) ≤ i by omega), rDgt_eq, wrap_add1 (show i < 4611686018427387904 by omega), Int.toNat_natCast, Bool.and_self, Bool.true_or, cond_true, Bool.true_and, bif_or]
  · simp only [dF h, dF (show ¬ (i : Int) < s.length by omega), dT (show (0 : Int) ≤ i by omega), Bool.and_false, Bool.not_false, Bool.or_true, cond_true, cond_false, Bool.false_and]
theorem nmSp_ok : SpOK (lturn Tryd.prog layR3 (nmFH rnN) 133 3 [0,1] [] [1] []) 27 [0,1] [] [1] [] (skSp rnN) := mkL_ok fun a h => ⟨_, _, _, _, fun k => rfl,
  scan_runs (vs := fun i => [.str a.s, .int .i64 (i : Nat)]) (ws := fun i => [.int .i64 (i : Nat)]) (fun i D k hi => nm_round a.s h.2 a.H i D k hi) _ a.i (Nat.le_refl _) h.1⟩
theorem layR4_ok : (layR4' rnN).OK Tryd.prog := layR3_ok.loop1 (id := 3) (by kernel_rfl) (by kernel_rfl) (by kernel_rfl) nmSp_ok
def nameN (s : List UInt8) (i : Nat) : Nat := bif bgB s i then rnN s i else 0
theorem nmTold_ok : ∀ xs H k out, posTold nameN xs H k = some out → ∃ o, CallOK Tryd.prog 133 xs H o ∧ k o = some out := posTold_ok fun s i h1 h2 => by
  refine layR4_ok.callF (G := []) rfl (fun k => (nm_fun rnN s i k).trans ?_)
  unfold nameN
  rw [dT (show (0 : Int) ≤ i by omega), Int.toNat_natCast]
  cases bgB s i with
  | false => rfl
  | true => exact (congrArg (fun c => cond c _ none) (tst_true ⟨⟨h1, h2⟩, .refl _, rfl, rfl⟩)).trans rfl
/- dots -/
noncomputable def layR5 (N : List UInt8 → Nat → Nat) : Lay := layR3.addF 133 (posTold N)
theorem layR5_ok : (layR5 nameN).OK Tryd.prog := layR3_ok.addF nmTold_ok
noncomputable def rdSp (M : List UInt8 → Nat → Int × Nat) : LSp := mkL (fun vs _ H => SkA.mk (aS vs 0) (aI vs 1).toNat H) (fun a => a.i ≤ a.s.length ∧ a.s.length ≤ 1099511627776) (fun a => [.str a.s, .int .i64 a.i]) (fun _ => []) (fun a => a.H)
  (fun a k => cond ((M a.s a.i).1 == 0) (k (.exit 0) [.int .i64 ((M a.s a.i).2 : Nat), .undef, .undef] [] a.H) (k .ret [.int .i64 ((M a.s a.i).2 : Nat), .int .i64 ((M a.s a.i).2 : Nat), .int .i64 (M a.s a.i).1] [] a.H))
noncomputable def rdFH (M : List UInt8 → Nat → Int × Nat) : FH := .of [(1, loopSpec 33 [0,1] [] [1,4,5] [] (rdSp M))]
theorem rd_step (N : List UInt8 → Nat → Nat) (M : List UInt8 → Nat → Int × Nat) (s : List UInt8) (i : Int) (H : Heap) (D : List (FuncId × List AVal)) (k : Kont) : lturn Tryd.prog (layR5 N) (rdFH M) 134 1 [0,1] [] [1,4,5] [] (stL 33 [0,1] [.str s, .int .i64 i] [] [] H D) k = (
 let n0 : Int := (↑s.length : Int);
 let n1 : Int := IntKind.i64.wrap (i + 1);
 let c2 : Bool := decide (n1 < n0);
 let m3 : Nat := n1.toNat;
 let n4 : Int := (↑(N s m3) : Int);
  bif decide (0 ≤ i) && decide (i < n0) || !c2 then
  bif bif c2 then (↑(s.getD i.toNat 0).toNat : Int) == 46 else false then
  bif decide (0 ≤ n1 ∧ m3 ≤ s.length ∧ s.length ≤ 1099511627776) then
  bif n4 == 0 then
  k AExit.ret
  (stL 33 [1, 4, 5] [AVal.int IntKind.i64 i, AVal.int IntKind.i64 i, AVal.int IntKind.i64 33] [] [] H D)
  else
  bif decide (IntKind.i64.wrap (IntKind.i64.wrap (n4 - i) - 1) > 32) then
  k AExit.ret
  (stL 33 [1, 4, 5] [AVal.int IntKind.i64 i, AVal.int IntKind.i64 i, AVal.int IntKind.i64 5] [] [] H D)
  else k AExit.normal (stL 33 [0, 1] [AVal.str s, AVal.int IntKind.i64 n4] [] [] H D)
  else none
  else k (AExit.exit 0) (stL 33 [1, 4, 5] [AVal.int IntKind.i64 i, AVal.undef, AVal.undef] [] [] H D)
  else none) := by kernel_rfl
noncomputable def layR6 (N : List UInt8 → Nat → Nat) (M : List UInt8 → Nat → Int × Nat) : Lay := (layR5 N).addL 134 (rdFH M)
theorem rd_fun (N : List UInt8 → Nat → Nat) (M : List UInt8 → Nat → Int × Nat) (s : List UInt8) (i : Int) (k : Out → Ans) : iFun Tryd.prog ((layR6 N M).hd Tryd.prog) (layR6 N M).fhs 0 134 [.str s, .int .i64 i] [] k = (
 let n0 : Int := (M s i.toNat).fst;
  bif
  tst
  ((i.toNat ≤ s.length ∧ s.length ≤ 1099511627776) ∧
  SubTL [AVal.str s, AVal.int IntKind.i64 i] [AVal.str s, AVal.int IntKind.i64 (↑i.toNat : Int)] ∧
  ([] : List (List AVal)) = [] ∧ ([] : Heap) = []) then
  bif n0 == 0 then k (Out.ret (AVal.tuple [AVal.int IntKind.i64 (↑(M s i.toNat).snd : Int), AVal.int IntKind.i64 0]) [])
  else k (Out.ret (AVal.tuple [AVal.int IntKind.i64 (↑(M s i.toNat).snd : Int), AVal.int IntKind.i64 n0]) [])
  else none) := by kernel_rfl
theorem beg_dig (c : UInt8) : (nmC c && !dig c) = (ltr c || c == 95) := by
  have h : ∀ n : Fin 256, (nmC (UInt8.ofNat n) && !dig (UInt8.ofNat n)) = (ltr (UInt8.ofNat n) || UInt8.ofNat n == 95) := by decide +kernel
  have := h ⟨c.toNat, c.toNat_lt⟩
  simpa using this
theorem run_pos (c : UInt8) (t : List UInt8) : decide (0 < runN (c :: t)) = nmC c := by
  rw [runN_cons]
  cases nmC c <;> simp
theorem idE_at {s : List UInt8} {j : Nat} (h : j < s.length) : idE (s.drop j) = bif bgB s j then (bif decide (runN (s.drop j) ≤ 32) then 0 else 5) else 33 := by
  have e := drop_cons_of s j 0 h
  unfold idE bgB
  rw [dT h, Bool.true_and, ← beg_dig]
  rw [show (s.drop j).getD 0 0 = s.getD j 0 by rw [List.getD_drop]; rfl]
  rw [show decide (0 < runN (s.drop j)) = nmC (s.getD j 0) by rw [e]; exact run_pos _ _]
  cases nmC (s.getD j 0) && !dig (s.getD j 0) <;> cases decide (runN (s.drop j) ≤ 32) <;> rfl
theorem name_at {s : List UInt8} {j : Nat} : nameN s j = bif bgB s j then j + runN (s.drop j) else 0 := rfl
def rdM (s : List UInt8) (i : Nat) : Int × Nat := ((dotsM s.length (s.drop i)).1, i + (dotsM s.length (s.drop i)).2)
theorem rd_round (s : List UInt8) (hs : s.length ≤ 1099511627776) (H : Heap) (i : Nat) (hi : i ≤ s.length) (D : List (FuncId × List AVal)) (k : Kont) : lturn Tryd.prog (layR5 nameN) (rdFH rdM) 134 1 [0,1] [] [1,4,5] [] (stL 33 [0,1] [.str s, .int .i64 (i : Nat)] [] [] H D) k =
    bif decide (i + 1 < s.length) && s.getD i 0 == 46 then (bif idE (s.drop (i + 1)) == 0 then k .normal (stL 33 [0,1] [.str s, .int .i64 ((i + 1 + runN (s.drop (i + 1)) : Nat) : Int)] [] [] H D) else k .ret (stL 33 [1,4,5] [.int .i64 (i : Nat), .int .i64 (i : Nat), .int .i64 (idE (s.drop (i + 1)))] [] [] H D))
    else k (.exit 0) (stL 33 [1,4,5] [.int .i64 (i : Nat), .undef, .undef] [] [] H D) := by
  have key := rd_step nameN rdM s i H D k
  have hr := runN_le (s.drop (i + 1))
  rw [List.length_drop] at hr
  simp only [wrap_add1 (show i < 4611686018427387904 by omega), Int.toNat_natCast] at key
  refine key.trans ?_
  by_cases h : i + 1 < s.length
  · rw [dT h, dT (show (i : Int) < s.length by omega), dT (show (0 : Int) ≤ i by omega), dT (show ((i + 1 : Nat) : Int) < s.length by omega), idE_at h, name_at]
    simp only [Bool.true_and, Bool.true_or, cond_true, eqc (show 46 < 256 by decide)]
    cases s.getD i 0 == 46 with
    | false => rfl
    | true =>
      simp only [cond_true, dT (show 0 ≤ ((i + 1 : Nat) : Int) ∧ i + 1 ≤ s.length ∧ s.length ≤ 1099511627776 from ⟨by omega, by omega, hs⟩)]
      cases bgB s (i + 1) with
      | false => rfl
      | true =>
        simp only [cond_true]
        rw [show (((i + 1 + runN (s.drop (i + 1)) : Nat) : Int) == 0) = false from by rw [beq_eq_false_iff_ne]; omega]
        simp only [cond_false]
        have ew : IntKind.i64.wrap (IntKind.i64.wrap (((i + 1 + runN (s.drop (i + 1)) : Nat) : Int) - (i : Int)) - 1) = ((runN (s.drop (i + 1)) : Nat) : Int) := by
          rw [show IntKind.i64.wrap (((i + 1 + runN (s.drop (i + 1)) : Nat) : Int) - (i : Int)) = ((1 + runN (s.drop (i + 1)) : Nat) : Int) by rw [wrapI (by omega) (by omega)]; omega, wrapI (by omega) (by omega)]; omega
        simp only [ew]
        by_cases h3 : runN (s.drop (i + 1)) ≤ 32
        · rw [dT h3, dF (show ¬ ((runN (s.drop (i + 1)) : Nat) : Int) > 32 by omega)]
          rfl
        · rw [dF h3, dT (show ((runN (s.drop (i + 1)) : Nat) : Int) > 32 by omega)]
          rfl
  · rw [dF h, dF (show ¬ ((i + 1 : Nat) : Int) < s.length by omega)]
    simp only [Bool.not_false, Bool.or_true, cond_true, cond_false, Bool.false_and]
theorem rd_runs (s : List UInt8) (hs : s.length ≤ 1099511627776) (H : Heap) : ∀ (m i : Nat), s.length - i ≤ m → i ≤ s.length →
    ((dotsM m (s.drop i)).1 = 0 → LoopRuns (lturn Tryd.prog (layR5 nameN) (rdFH rdM) 134 1 [0,1] [] [1,4,5] []) 33 [0,1] [] [1,4,5] [] [.str s, .int .i64 (i : Nat)] [] H (.exit 0) [.int .i64 ((i + (dotsM m (s.drop i)).2 : Nat) : Int), .undef, .undef] [] H) ∧
    ((dotsM m (s.drop i)).1 ≠ 0 → LoopRuns (lturn Tryd.prog (layR5 nameN) (rdFH rdM) 134 1 [0,1] [] [1,4,5] []) 33 [0,1] [] [1,4,5] [] [.str s, .int .i64 (i : Nat)] [] H .ret [.int .i64 ((i + (dotsM m (s.drop i)).2 : Nat) : Int), .int .i64 ((i + (dotsM m (s.drop i)).2 : Nat) : Int), .int .i64 (dotsM m (s.drop i)).1] [] H) := by
  intro m
  induction m with
  | zero =>
    intro i hm hi
    have e : s.drop i = [] := List.drop_eq_nil_of_le (by omega)
    rw [e]
    refine ⟨fun _ => .stop (by simp) (fun D k => ?_), fun h => absurd rfl h⟩
    rw [rd_round s hs H i hi D k, dF (by omega)]
    rfl
  | succ m ih =>
    intro i hm hi
    have key := fun D k => rd_round s hs H i hi D k
    have eg : (s.drop i).getD 0 0 = s.getD i 0 := by rw [List.getD_drop]; rfl
    have el : (s.drop i).length = s.length - i := by simp
    have ed : (s.drop i).drop 1 = s.drop (i + 1) := by rw [List.drop_drop]
    have hr := runN_le (s.drop (i + 1))
    rw [List.length_drop] at hr
    rw [dotsM, eg, el, ed, show decide (1 < s.length - i) = decide (i + 1 < s.length) from decide_eq_decide.2 (by omega)]
    cases hc : decide (i + 1 < s.length) && s.getD i 0 == 46 with
    | false =>
      simp only [hc, cond_false] at key ⊢
      exact ⟨fun _ => .stop (by simp) key, fun h => absurd rfl h⟩
    | true =>
      have hlt : i + 1 < s.length := by rw [Bool.and_eq_true, decide_eq_true_eq] at hc; exact hc.1
      simp only [hc, cond_true] at key ⊢
      cases he : idE (s.drop (i + 1)) == 0 with
      | true =>
        simp only [he, cond_true] at key ⊢
        have ih2 := ih (i + 1 + runN (s.drop (i + 1))) (by omega) (by omega)
        have edd : (s.drop i).drop (1 + runN (s.drop (i + 1))) = s.drop (i + 1 + runN (s.drop (i + 1))) := by rw [List.drop_drop]; congr 1; omega
        rw [edd]
        rw [show i + 1 + runN (s.drop (i + 1)) + (dotsM m (s.drop (i + 1 + runN (s.drop (i + 1))))).2 = i + (1 + runN (s.drop (i + 1)) + (dotsM m (s.drop (i + 1 + runN (s.drop (i + 1))))).2) by omega] at ih2
        exact ⟨fun h => .step key (ih2.1 h), fun h => .step key (ih2.2 h)⟩
      | false =>
        simp only [he, cond_false] at key ⊢
        refine ⟨fun h => absurd (show (idE (s.drop (i + 1)) == 0) = true from beq_iff_eq.2 h) (by rw [he]; decide), fun _ => .stop (by simp) key⟩
theorem rdSp_ok : SpOK (lturn Tryd.prog (layR5 nameN) (rdFH rdM) 134 1 [0,1] [] [1,4,5] []) 33 [0,1] [] [1,4,5] [] (rdSp rdM) := mkL_ok fun a h => by
  have key := rd_runs a.s h.2 a.H a.s.length a.i (by omega) h.1
  show ∃ e vs bs H, (∀ k : AExit → List AVal → List (List AVal) → Heap → Ans, cond ((dotsM a.s.length (a.s.drop a.i)).1 == 0) _ _ = k e vs bs H) ∧ _
  cases hb : (dotsM a.s.length (a.s.drop a.i)).1 == 0 with
  | true => exact ⟨_, _, _, _, fun k => rfl, key.1 (by simpa using hb)⟩
  | false => exact ⟨_, _, _, _, fun k => rfl, key.2 (by simpa using hb)⟩
theorem layR6_ok : (layR6 nameN rdM).OK Tryd.prog := layR5_ok.loop1 (id := 1) (by kernel_rfl) (by kernel_rfl) (by kernel_rfl) rdSp_ok
def dotTold (M : List UInt8 → Nat → Int × Nat) : FSp := mkFS [.s, .i .i64] (fun xs => decide (0 ≤ aI xs 1 ∧ (aI xs 1).toNat ≤ (aS xs 0).length ∧ (aS xs 0).length ≤ 1099511627776)) (fun xs k => k (.ret (.tuple [.int .i64 (M (aS xs 0) (aI xs 1).toNat).2, .int .i64 (M (aS xs 0) (aI xs 1).toNat).1]) []))
theorem rdTold_ok : ∀ xs H k out, dotTold rdM xs H k = some out → ∃ o, CallOK Tryd.prog 134 xs H o ∧ k o = some out := mkFS_ok fun ys xs e hx => by
  obtain ⟨s, n, rfl⟩ : ∃ s n, xs = [.str s, .int .i64 n] := ⟨_, _, e⟩
  replace hx : 0 ≤ n ∧ n.toNat ≤ s.length ∧ s.length ≤ 1099511627776 := of_decide_eq_true hx
  obtain ⟨i, rfl⟩ : ∃ i : Nat, n = i := ⟨n.toNat, by omega⟩
  refine ⟨_, fun k => rfl, layR6_ok.callF (G := []) rfl (fun k => (rd_fun nameN rdM s i k).trans ?_)⟩
  refine (congrArg (fun c => cond c _ none) (tst_true ⟨hx.2, .refl _, rfl, rfl⟩)).trans ?_
  show cond ((rdM s i).1 == 0) _ _ = _
  cases hb : (rdM s i).1 == 0 with
  | true =>
    rw [beq_iff_eq] at hb
    simp only [cond_true]
    show k (.ret (.tuple [.int .i64 ((rdM s i).2 : Nat), .int .i64 0]) []) = k (.ret (.tuple [.int .i64 ((rdM s i).2 : Nat), .int .i64 (rdM s i).1]) [])
    rw [hb]
  | false => rfl
end Go.Mu
set_option linter.unusedVariables false
set_option linter.unusedSimpArgs false
set_option maxRecDepth 100000
namespace Go.Mu
open Go Go.Proofs
theorem Lay.OK.loop2 {P : Program} {L : Lay} (h : L.OK P) {fh : FH} {f id n id' n' : Nat} {l m lx mx l' m' lx' mx' : List Nat} {sp sp' : LSp} (e1 : loopsIn (codeOf P f) = [loopAt id (codeOf P f), loopAt id' (codeOf P f)]) (e2 : loopsIn (loopAt id (codeOf P f)) = []) (e2' : loopsIn (loopAt id' (codeOf P f)) = [])
    (e3 : fh.loops (firstRegion (loopAt id (codeOf P f))) = some (loopSpec n l m lx mx sp)) (e3' : fh.loops (firstRegion (loopAt id' (codeOf P f))) = some (loopSpec n' l' m' lx' mx' sp'))
    (hs : SpOK (lturn P L fh f id l m lx mx) n l m lx mx sp) (hs' : SpOK (lturn P L fh f id' l' m' lx' mx') n' l' m' lx' mx' sp') : (L.addL f fh).OK P := by
  refine h.addL (LOk.of _ (fun d hd sp0 hsp => ?_))
  rw [e1, List.mem_cons, List.mem_singleton] at hd
  rcases hd with rfl | rfl
  · rw [e3, Option.some.injEq] at hsp
    subst hsp; exact h.told (LOk.of _ (fun d hd => by rw [e2] at hd; cases hd)) hs
  · rw [e3', Option.some.injEq] at hsp
    subst hsp; exact h.told (LOk.of _ (fun d hd => by rw [e2'] at hd; cases hd)) hs'
theorem rbg_fun (a b : List UInt8) (k : Out → Ans) : iFun Tryd.prog (Lay.nil.hd Tryd.prog) Lay.nil.fhs 0 138 [.str a, .str b] [] k = (
 let n0 : Int := (↑a.length : Int);
 let c1 : Bool := decide (n0 ≤ (↑b.length : Int));
  bif c1 || !c1 then
  k (Out.ret (AVal.bool (bif c1 then List.drop (Int.toNat 0) (List.take n0.toNat b) == a else false)) [])
  else none) := by kernel_rfl
/- Has -/
structure HsA where
  s : List UInt8
  n : Int
  i : Nat
  H : Heap
def anyI (s : List UInt8) (n : Int) : Bool := s.any (fun d => (d.toNat : Int) == n)
noncomputable def hsSp (R : List UInt8 → Int → Bool) : LSp := mkL (fun vs _ H => HsA.mk (aS vs 0) (aI vs 1) (aI vs 2).toNat H) (fun a => a.i ≤ a.s.length ∧ a.s.length ≤ 1099511627776) (fun a => [.str a.s, .int .u8 a.n, .int .i64 a.i]) (fun _ => []) (fun a => a.H)
  (fun a k => cond (R (a.s.drop a.i) a.n) (k .ret [.bool true] [] a.H) (k (.exit 0) [.undef] [] a.H))
noncomputable def hsFH (R : List UInt8 → Int → Bool) : FH := .of [(2, loopSpec 17 [0,1,5] [] [4] [] (hsSp R))]
theorem hs_step (R : List UInt8 → Int → Bool) (s : List UInt8) (n i : Int) (H : Heap) (D : List (FuncId × List AVal)) (k : Kont) : lturn Tryd.prog Lay.nil (hsFH R) 66 2 [0,1,5] [] [4] [] (stL 17 [0,1,5] [.str s, .int .u8 n, .int .i64 i] [] [] H D) k = (
 let c0 : Bool := decide (i < (↑s.length : Int));
  bif c0 then
  bif decide (0 ≤ i) && c0 then
  bif (↑(s.getD i.toNat 0).toNat : Int) == n then k AExit.ret (stL 17 [4] [AVal.bool true] [] [] H D)
  else
  k AExit.normal
  (stL 17 [0, 1, 5] [AVal.str s, AVal.int IntKind.u8 n, AVal.int IntKind.i64 (IntKind.i64.wrap (i + 1))] [] [] H
  D)
  else none
  else k (AExit.exit 0) (stL 17 [4] [AVal.undef] [] [] H D)) := by kernel_rfl
noncomputable def layH1 (R : List UInt8 → Int → Bool) : Lay := Lay.nil.addL 66 (hsFH R)
theorem hs_fun (R : List UInt8 → Int → Bool) (s : List UInt8) (n : Int) (k : Out → Ans) : iFun Tryd.prog ((layH1 R).hd Tryd.prog) (layH1 R).fhs 0 66 [.str s, .int .u8 n] [] k = (
  bif
  tst
  ((Int.toNat 0 ≤ s.length ∧ s.length ≤ 1099511627776) ∧
  SubTL [AVal.str s, AVal.int IntKind.u8 n, AVal.int IntKind.i64 0]
  [AVal.str s, AVal.int IntKind.u8 n, AVal.int IntKind.i64 (↑(Int.toNat 0) : Int)] ∧
  ([] : List (List AVal)) = [] ∧ ([] : Heap) = []) then
  bif R (List.drop (Int.toNat 0) s) n then k (Out.ret (AVal.bool true) []) else k (Out.ret (AVal.bool false) [])
  else none) := by kernel_rfl
/- Parse -/
structure RdA where
  b : Bool
  s : List UInt8
  i : Nat
  H : Heap
noncomputable def rpSp (R : List UInt8 → Bool) : LSp := mkL (fun vs _ H => RdA.mk (aB vs 0) (aS vs 1) (aI vs 2).toNat H) (fun a => a.i ≤ a.s.length ∧ a.s.length ≤ 1099511627776) (fun a => [.bool a.b, .str a.s, .int .i64 a.i]) (fun _ => []) (fun a => a.H)
  (fun a k => cond (R (a.s.drop a.i)) (k (.exit 0) [.undef, .undef, .bool a.b, .str a.s] [] a.H) (k .ret [.int .i64 0, .int .i64 33, .bool a.b, .str a.s] [] a.H))
structure RnA where
  b : Bool
  s : List UInt8
  n : Nat
  i : Nat
  H : Heap
def decN (n : Nat) (l : List UInt8) : Nat := l.foldl (fun n c => n * 10 + (c.toNat - 48)) n
noncomputable def rnSp (R : Nat → List UInt8 → Nat) : LSp := mkL (fun vs _ H => RnA.mk (aB vs 0) (aS vs 1) (aI vs 2).toNat (aI vs 3).toNat H) (fun a => a.i ≤ a.s.length ∧ a.s.length ≤ 19 ∧ a.s.all dig = true ∧ a.n < 10 ^ a.i) (fun a => [.bool a.b, .str a.s, .int .u64 a.n, .int .i64 a.i]) (fun _ => []) (fun a => a.H)
  (fun a k => k (.exit 2) [.bool a.b, .int .u64 (R a.n (a.s.drop a.i) : Nat)] [] a.H)
noncomputable def rpFH (R : List UInt8 → Bool) (N : Nat → List UInt8 → Nat) : FH := .of [(8, loopSpec 79 [4,5,6] [] [2,3,4,5] [] (rpSp R)), (18, loopSpec 79 [4,5,7,8] [] [4,7] [] (rnSp N))]
noncomputable def layP0 : Lay := Lay.nil.addF 135 (octTold rDgt)
theorem layP0_ok : layP0.OK Tryd.prog := Lay.nil_ok.addF (octTold_ok rDigit_fun)
theorem rp_step (R : List UInt8 → Bool) (N : Nat → List UInt8 → Nat) (b : Bool) (s : List UInt8) (i : Int) (H : Heap) (D : List (FuncId × List AVal)) (k : Kont) : lturn Tryd.prog layP0 (rpFH R N) 136 8 [4,5,6] [] [2,3,4,5] [] (stL 79 [4,5,6] [.bool b, .str s, .int .i64 i] [] [] H D) k = (
 let c0 : Bool := decide (i < (↑s.length : Int));
  bif c0 then
  bif decide (0 ≤ i) && c0 then
  bif !rDgt (↑(s.getD i.toNat 0).toNat : Int) then
  k AExit.ret
  (stL 79 [2, 3, 4, 5] [AVal.int IntKind.i64 0, AVal.int IntKind.i64 33, AVal.bool b, AVal.str s] [] [] H D)
  else
  k AExit.normal
  (stL 79 [4, 5, 6] [AVal.bool b, AVal.str s, AVal.int IntKind.i64 (IntKind.i64.wrap (i + 1))] [] [] H D)
  else none
  else k (AExit.exit 0) (stL 79 [2, 3, 4, 5] [AVal.undef, AVal.undef, AVal.bool b, AVal.str s] [] [] H D)) := by kernel_rfl
theorem rn_step (R : List UInt8 → Bool) (N : Nat → List UInt8 → Nat) (b : Bool) (s : List UInt8) (n i : Int) (H : Heap) (D : List (FuncId × List AVal)) (k : Kont) : lturn Tryd.prog layP0 (rpFH R N) 136 18 [4,5,7,8] [] [4,7] [] (stL 79 [4,5,7,8] [.bool b, .str s, .int .u64 n, .int .i64 i] [] [] H D) k = (
 let c0 : Bool := decide (i < (↑s.length : Int));
  bif c0 then
  bif decide (0 ≤ i) && c0 then
  k AExit.normal
  (stL 79 [4, 5, 7, 8]
  [AVal.bool b, AVal.str s,
  AVal.int IntKind.u64
  (IntKind.u64.wrap
  (IntKind.u64.wrap (n * 10) +
  IntKind.u64.wrap (IntKind.u8.wrap ((↑(s.getD i.toNat 0).toNat : Int) - 48)))),
  AVal.int IntKind.i64 (IntKind.i64.wrap (i + 1))]
  [] [] H D)
  else none
  else k (AExit.exit 2) (stL 79 [4, 7] [AVal.bool b, AVal.int IntKind.u64 n] [] [] H D)) := by kernel_rfl
noncomputable def layP1 (R : List UInt8 → Bool) (N : Nat → List UInt8 → Nat) : Lay := layP0.addL 136 (rpFH R N)
noncomputable def tailK (R : List UInt8 → Bool) (N : Nat → List UInt8 → Nat) (c4 : Bool) (l5 : List UInt8) (k : Out → Ans) : Ans :=
  bif l5 == [] then k (Out.ret (AVal.tuple [AVal.int IntKind.i64 0, AVal.int IntKind.i64 8]) [])
  else
    bif tst ((Int.toNat 0 ≤ l5.length ∧ l5.length ≤ 1099511627776) ∧ SubTL [AVal.bool c4, AVal.str l5, AVal.int IntKind.i64 0] [AVal.bool c4, AVal.str l5, AVal.int IntKind.i64 (Int.toNat 0 : Nat)] ∧ ([] : List (List AVal)) = [] ∧ ([] : Heap) = []) then
      bif R (l5.drop (Int.toNat 0)) then
        bif decide (0 < (l5.length : Int)) then
          bif bif ((l5.getD 0 0).toNat : Int) == 48 then bif c4 then true else decide ((l5.length : Int) > 1) else false then
            k (Out.ret (AVal.tuple [AVal.int IntKind.i64 0, AVal.int IntKind.i64 33]) [])
          else
            bif decide ((l5.length : Int) > 19) then k (Out.ret (AVal.tuple [AVal.int IntKind.i64 0, AVal.int IntKind.i64 4]) [])
            else
              bif tst ((Int.toNat 0 ≤ l5.length ∧ l5.length ≤ 19 ∧ l5.all dig = true ∧ Int.toNat 0 < 10 ^ Int.toNat 0) ∧ SubTL [AVal.bool c4, AVal.str l5, AVal.int IntKind.u64 0, AVal.int IntKind.i64 0] [AVal.bool c4, AVal.str l5, AVal.int IntKind.u64 (Int.toNat 0 : Nat), AVal.int IntKind.i64 (Int.toNat 0 : Nat)] ∧ ([] : List (List AVal)) = [] ∧ ([] : Heap) = []) then
                bif bif c4 then decide (((N (Int.toNat 0) (l5.drop (Int.toNat 0)) : Nat) : Int) ≤ 9223372036854775808) else false then
                  k (Out.ret (AVal.tuple [AVal.int IntKind.i64 (IntKind.i64.wrap (IntKind.u64.wrap (0 - ((N (Int.toNat 0) (l5.drop (Int.toNat 0)) : Nat) : Int)))), AVal.int IntKind.i64 0]) [])
                else
                  bif bif c4 then true else decide (((N (Int.toNat 0) (l5.drop (Int.toNat 0)) : Nat) : Int) ≥ 9223372036854775808) then
                    k (Out.ret (AVal.tuple [AVal.int IntKind.i64 0, AVal.int IntKind.i64 4]) [])
                  else
                    k (Out.ret (AVal.tuple [AVal.int IntKind.i64 (IntKind.i64.wrap ((N (Int.toNat 0) (l5.drop (Int.toNat 0)) : Nat) : Int)), AVal.int IntKind.i64 0]) [])
              else none
        else none
      else k (Out.ret (AVal.tuple [AVal.int IntKind.i64 0, AVal.int IntKind.i64 33]) [])
    else none
theorem rp_fun (R : List UInt8 → Bool) (N : Nat → List UInt8 → Nat) (s : List UInt8) (k : Out → Ans) : iFun Tryd.prog ((layP1 R N).hd Tryd.prog) (layP1 R N).fhs 0 136 [.str s] [] k = (
 let c4 : Bool := bif decide ((s.length : Int) > 0) then ((s.getD 0 0).toNat : Int) == 45 else false
  bif decide (0 < (s.length : Int)) || !decide ((s.length : Int) > 0) then
  bif c4 then
  bif decide (1 ≤ (s.length : Int)) && decide ((s.length : Int) ≤ s.length) then tailK R N c4 ((s.take (s.length : Int).toNat).drop (Int.toNat 1)) k else none
  else tailK R N c4 s k
  else none) := by kernel_rfl
def tailR (neg : Bool) (l : List UInt8) : Int × Int :=
  bif l == [] then (0, 8) else bif !l.all dig then (0, 33) else bif l.getD 0 0 == 48 && (neg || decide (1 < l.length)) then (0, 33) else bif decide (l.length > 19) then (0, 4)
    else bif neg then (bif decide (decN 0 l ≤ 9223372036854775808) then (-(decN 0 l : Int), 0) else (0, 4)) else bif decide (decN 0 l ≥ 9223372036854775808) then (0, 4) else ((decN 0 l : Int), 0)
theorem tailK_eq (neg : Bool) (l : List UInt8) (hl : l.length ≤ 1099511627776) (k : Out → Ans) : tailK (fun l => l.all dig) decN neg l k = k (.ret (.tuple [.int .i64 (tailR neg l).1, .int .i64 (tailR neg l).2]) []) := by
  unfold tailK tailR
  cases h0 : l == [] with
  | true => rfl
  | false =>
    have hne : l ≠ [] := by rintro rfl; cases h0
    have hp : 0 < l.length := List.length_pos_iff.2 hne
    simp only [cond_false]
    refine (congrArg (fun c => cond c _ none) (tst_true ⟨⟨Nat.zero_le _, hl⟩, .refl _, by trivial, by trivial⟩)).trans ?_
    simp only [cond_true, Int.toNat_zero, List.drop_zero]
    cases hd : l.all dig with
    | false => rfl
    | true =>
      simp only [cond_true, Bool.not_true, cond_false]
      rw [dT (show 0 < (l.length : Int) by omega)]
      simp only [cond_true, eqc (show 48 < 256 by decide), bif_or, bif_and]
      rw [show decide ((l.length : Int) > 1) = decide (1 < l.length) from decide_eq_decide.2 (by omega), show decide ((l.length : Int) > 19) = decide (l.length > 19) from decide_eq_decide.2 (by omega)]
      cases l.getD 0 0 == 48 && (neg || decide (1 < l.length)) with
      | true => rfl
      | false =>
        simp only [cond_false]
        by_cases h19 : l.length > 19
        · rw [dT h19]; rfl
        · rw [dF h19]
          simp only [cond_false]
          refine (congrArg (fun c => cond c _ none) (tst_true ⟨⟨Nat.zero_le _, by omega, by trivial, by decide⟩, .refl _, by trivial, by trivial⟩)).trans ?_
          cases neg with
          | true =>
            simp only [cond_true, Bool.true_and]
            rw [show decide (((decN 0 l : Nat) : Int) ≤ 9223372036854775808) = decide (decN 0 l ≤ 9223372036854775808) from decide_eq_decide.2 (by omega)]
            by_cases h : decN 0 l ≤ 9223372036854775808
            · rw [dT h]
              simp only [cond_true]
              rw [wrapNeg h]
            · rw [dF h]; rfl
          | false =>
            simp only [cond_false, Bool.false_and, Bool.false_or]
            rw [show decide (((decN 0 l : Nat) : Int) ≥ 9223372036854775808) = decide (decN 0 l ≥ 9223372036854775808) from decide_eq_decide.2 (by omega)]
            by_cases h : decN 0 l ≥ 9223372036854775808
            · rw [dT h]; rfl
            · rw [dF h]
              simp only [cond_false, cond_true]
              rw [wrapI (by omega) (by omega)]
theorem decN_mono : ∀ (l : List UInt8) (n : Nat), n ≤ decN n l
  | [], n => Nat.le_refl _
  | c :: t, n => by
    have := decN_mono t (n * 10 + (c.toNat - 48))
    show n ≤ decN (n * 10 + (c.toNat - 48)) t
    omega
theorem numL_dec : ∀ (l : List UInt8) (n : Nat), n ≤ 9223372036854775808 → (numL n l).1 = decide (decN n l > 9223372036854775808) ∧ (decN n l ≤ 9223372036854775808 → (numL n l).2 = decN n l)
  | [], n, h => ⟨by rw [dF (show ¬ decN n [] > 9223372036854775808 from by show ¬ n > _; omega)]; rfl, fun _ => rfl⟩
  | c :: t, n, h => by
    rw [numL]
    show (bif _ then _ else _ : Bool × Nat).1 = decide (decN (n * 10 + (c.toNat - 48)) t > _) ∧ (decN (n * 10 + (c.toNat - 48)) t ≤ _ → (bif _ then _ else _ : Bool × Nat).2 = decN (n * 10 + (c.toNat - 48)) t)
    have hm := decN_mono t (n * 10 + (c.toNat - 48))
    by_cases hb : n * 10 + (c.toNat - 48) > 9223372036854775808
    · rw [dT hb, dT (show decN (n * 10 + (c.toNat - 48)) t > 9223372036854775808 by omega)]
      exact ⟨rfl, fun h => by omega⟩
    · rw [dF hb]
      exact numL_dec t _ (by omega)
theorem decN_low : ∀ (l : List UInt8) (n : Nat), n * 10 ^ l.length ≤ decN n l
  | [], n => by simp [decN]
  | c :: t, n => by
    have := decN_low t (n * 10 + (c.toNat - 48))
    show _ ≤ decN (n * 10 + (c.toNat - 48)) t
    refine Nat.le_trans ?_ this
    rw [List.length_cons, Nat.pow_succ, ← Nat.mul_assoc, Nat.mul_right_comm]
    exact Nat.mul_le_mul_right _ (by omega)
theorem dec_long {l : List UInt8} (hd : l.all dig = true) (h0 : (l.getD 0 0 == 48) = false) (h : l.length > 19) : decN 0 l > 9223372036854775808 := by
  match l, h with
  | c :: t, h =>
    have hc : dig c = true := by rw [List.all_cons, Bool.and_eq_true] at hd; exact hd.1
    unfold dig at hc
    rw [Bool.and_eq_true, decide_eq_true_eq, decide_eq_true_eq] at hc
    have h48 : c.toNat ≠ 48 := fun e => by
      have : c = 48 := UInt8.toNat_inj.1 e
      subst this; cases h0
    have := decN_low t (0 * 10 + (c.toNat - 48))
    simp only [List.length_cons] at h
    have h2 : 10 ^ 19 ≤ 10 ^ t.length := Nat.pow_le_pow_right (by decide) (by omega)
    have h3 : 1 * 10 ^ t.length ≤ (0 * 10 + (c.toNat - 48)) * 10 ^ t.length := Nat.mul_le_mul_right _ (by omega)
    show decN (0 * 10 + (c.toNat - 48)) t > _
    have h4 : (10 : Nat) ^ 19 = 10000000000000000000 := by decide
    omega
theorem any_all (l : List UInt8) : l.any ndC = !l.all dig := by
  rw [List.not_all_eq_any_not]
  congr 1
  funext c
  rw [nd_dig]
theorem num_tail (s : List UInt8) : numM s = bif [45].isPrefixOf s then tailR true (s.drop 1) else tailR false s := by
  have tl : ∀ (neg : Bool) (l : List UInt8), l ≠ [] → l.all dig = true → (l.getD 0 0 == 48 && (neg || decide (1 < l.length))) = false → (numL 0 l).1 = decide (decN 0 l > 9223372036854775808) ∧ (decide (l.length > 19) = true → decN 0 l > 9223372036854775808) := fun neg l hne hd hz => by
    refine ⟨(numL_dec l 0 (by decide)).1, fun h => ?_⟩
    have h := of_decide_eq_true h
    refine dec_long hd ?_ h
    rw [dT (show 1 < l.length by omega), Bool.or_true, Bool.and_true] at hz
    exact hz
  unfold numM
  cases [45].isPrefixOf s with
  | true =>
    simp only [cond_true]
    generalize s.drop 1 = l
    unfold tailR
    cases h0 : l == [] with
    | true => rfl
    | false =>
      have hne : l ≠ [] := by rintro rfl; cases h0
      simp only [cond_false, any_all]
      cases hd : l.all dig with
      | false => rfl
      | true =>
        simp only [Bool.not_true, cond_false, Bool.false_or, Bool.true_or, Bool.and_true]
        cases hz : l.getD 0 0 == 48 with
        | true => rfl
        | false =>
          obtain ⟨e1, e2⟩ := tl true l hne hd (by rw [hz]; rfl)
          have e3 := (numL_dec l 0 (by decide)).2
          simp only [cond_false, cond_true, e1]
          by_cases hb : decN 0 l > 9223372036854775808
          · rw [dT hb, dF (show ¬ decN 0 l ≤ 9223372036854775808 by omega)]
            cases decide (l.length > 19) <;> rfl
          · rw [dF hb, dT (show decN 0 l ≤ 9223372036854775808 by omega), e3 (by omega)]
            cases h : decide (l.length > 19) with
            | true => exact absurd (e2 h) hb
            | false => rfl
  | false =>
    simp only [cond_false]
    generalize s = l
    unfold tailR
    cases h0 : l == [] with
    | true => rfl
    | false =>
      have hne : l ≠ [] := by rintro rfl; cases h0
      simp only [cond_false, any_all]
      cases hd : l.all dig with
      | false => rfl
      | true =>
        simp only [Bool.not_true, cond_false, Bool.false_or]
        cases hz : l.getD 0 0 == 48 && decide (1 < l.length) with
        | true => rfl
        | false =>
          obtain ⟨e1, e2⟩ := tl false l hne hd hz
          have e3 := (numL_dec l 0 (by decide)).2
          simp only [cond_false, e1]
          by_cases hb : decN 0 l > 9223372036854775808
          · rw [dT hb, dT (show decN 0 l ≥ 9223372036854775808 by omega)]
            cases decide (l.length > 19) <;> rfl
          · rw [dF hb, e3 (by omega)]
            cases h : decide (l.length > 19) with
            | true => exact absurd (e2 h) hb
            | false =>
              simp only [cond_false]
              by_cases hc : decN 0 l ≥ 9223372036854775808
              · rw [dT hc, dT (show decN 0 l > 9223372036854775807 by omega)]
              · rw [dF hc, dF (show ¬ decN 0 l > 9223372036854775807 by omega)]
/- the loops -/
theorem rp_runs (b : Bool) (s : List UInt8) (hs : s.length ≤ 1099511627776) (H : Heap) (R : List UInt8 → Bool) (N : Nat → List UInt8 → Nat) : ∀ (m i : Nat), s.length - i ≤ m → i ≤ s.length →
    ((s.drop i).all dig = true → LoopRuns (lturn Tryd.prog layP0 (rpFH R N) 136 8 [4,5,6] [] [2,3,4,5] []) 79 [4,5,6] [] [2,3,4,5] [] [.bool b, .str s, .int .i64 (i : Nat)] [] H (.exit 0) [.undef, .undef, .bool b, .str s] [] H) ∧
    ((s.drop i).all dig = false → LoopRuns (lturn Tryd.prog layP0 (rpFH R N) 136 8 [4,5,6] [] [2,3,4,5] []) 79 [4,5,6] [] [2,3,4,5] [] [.bool b, .str s, .int .i64 (i : Nat)] [] H .ret [.int .i64 0, .int .i64 33, .bool b, .str s] [] H) := by
  intro m
  induction m with
  | zero =>
    intro i hm hi
    have e : s.drop i = [] := List.drop_eq_nil_of_le (by omega)
    rw [e]
    refine ⟨fun _ => .stop (by simp) (fun D k => ?_), fun h => by cases h⟩
    rw [rp_step]
    simp (disch := omega) only [dF, cond_false]
  | succ m ih =>
    intro i hm hi
    have key := fun D k => rp_step R N b s i H D k
    by_cases hlt : i < s.length
    · have ed := drop_cons_of s i 0 hlt
      simp (disch := omega) only [dT, cond_true, Bool.and_self, rDgt_eq, Int.toNat_natCast, wrap_add1] at key
      rw [ed, List.all_cons]
      cases hc : dig (s.getD i 0) with
      | true =>
        simp only [hc, Bool.not_true, cond_false] at key
        rw [Bool.true_and]
        have := ih (i + 1) (by omega) (by omega)
        exact ⟨fun h => .step key (this.1 h), fun h => .step key (this.2 h)⟩
      | false =>
        simp only [hc, Bool.not_false, cond_true] at key
        exact ⟨(fun h => by cases h), fun _ => .stop (by simp) key⟩
    · have e : s.drop i = [] := List.drop_eq_nil_of_le (by omega)
      rw [e]
      refine ⟨fun _ => .stop (by simp) (fun D k => ?_), fun h => by cases h⟩
      rw [rp_step]
      simp (disch := omega) only [dF, cond_false]
theorem rpSp_ok {N : Nat → List UInt8 → Nat} : SpOK (lturn Tryd.prog layP0 (rpFH (fun l => l.all dig) N) 136 8 [4,5,6] [] [2,3,4,5] []) 79 [4,5,6] [] [2,3,4,5] [] (rpSp (fun l => l.all dig)) := mkL_ok fun a h => by
  have key := rp_runs a.b a.s h.2 a.H (fun l => l.all dig) N _ a.i (Nat.le_refl _) h.1
  show ∃ e vs bs H, (∀ k : AExit → List AVal → List (List AVal) → Heap → Ans, cond ((a.s.drop a.i).all dig) _ _ = k e vs bs H) ∧ _
  cases hb : (a.s.drop a.i).all dig with
  | true => exact ⟨_, _, _, _, fun k => rfl, key.1 hb⟩
  | false => exact ⟨_, _, _, _, fun k => rfl, key.2 hb⟩
theorem pow_le19 {i : Nat} (h : i < 19) : 10 ^ i ≤ 1000000000000000000 := Nat.le_trans (Nat.pow_le_pow_right (by decide) (show i ≤ 18 by omega)) (by decide)
theorem rn_runs (b : Bool) (s : List UInt8) (hs : s.length ≤ 19) (hd : s.all dig = true) (H : Heap) (R : List UInt8 → Bool) (N : Nat → List UInt8 → Nat) : ∀ (m i n : Nat), s.length - i ≤ m → i ≤ s.length → n < 10 ^ i →
    LoopRuns (lturn Tryd.prog layP0 (rpFH R N) 136 18 [4,5,7,8] [] [4,7] []) 79 [4,5,7,8] [] [4,7] [] [.bool b, .str s, .int .u64 (n : Nat), .int .i64 (i : Nat)] [] H (.exit 2) [.bool b, .int .u64 (decN n (s.drop i) : Nat)] [] H := by
  intro m
  induction m with
  | zero =>
    intro i n hm hi hn
    have e : s.drop i = [] := List.drop_eq_nil_of_le (by omega)
    rw [e]
    refine .stop (by simp) (fun D k => ?_)
    rw [rn_step]
    simp (disch := omega) only [dF, cond_false]
    rfl
  | succ m ih =>
    intro i n hm hi hn
    have key := fun D k => rn_step R N b s n i H D k
    by_cases hlt : i < s.length
    · have ed := drop_cons_of s i 0 hlt
      have hp := pow_le19 (show i < 19 by omega)
      have hc : dig (s.getD i 0) = true := List.all_eq_true.1 hd _ (by rw [List.getD_eq_getElem?_getD, List.getElem?_eq_getElem hlt]; exact List.getElem_mem _)
      unfold dig at hc
      rw [Bool.and_eq_true, decide_eq_true_eq, decide_eq_true_eq] at hc
      have e2 : IntKind.i64.wrap ((i : Int) + 1) = ((i + 1 : Nat) : Int) := wrap_add1 (by omega)
      simp only [Int.toNat_natCast, e2] at key
      rw [ed]
      obtain ⟨c, hcc⟩ : ∃ c, c = s.getD i 0 := ⟨_, rfl⟩
      simp only [← hcc] at key hc ⊢
      have e3 : IntKind.u64.wrap (IntKind.u8.wrap ((c.toNat : Int) - 48)) = ((c.toNat - 48 : Nat) : Int) := by rw [wrapB (by omega) (by omega), wrapU (by omega) (by omega)]; omega
      have e7 : IntKind.u64.wrap (IntKind.u64.wrap ((n : Int) * 10) + ((c.toNat - 48 : Nat) : Int)) = ((n * 10 + (c.toNat - 48) : Nat) : Int) := by
        rw [wrapU (n := (n : Int) * 10) (by omega) (by omega), wrapU (by omega) (by omega)]; omega
      simp (disch := omega) only [dT, cond_true, Bool.and_self, e3, e7] at key
      have := ih (i + 1) (n * 10 + (c.toNat - 48)) (by omega) (by omega) (by rw [Nat.pow_succ]; omega)
      exact .step key this
    · have e : s.drop i = [] := List.drop_eq_nil_of_le (by omega)
      rw [e]
      refine .stop (by simp) (fun D k => ?_)
      rw [rn_step]
      simp (disch := omega) only [dF, cond_false]
      rfl
theorem rnSp_ok {R : List UInt8 → Bool} : SpOK (lturn Tryd.prog layP0 (rpFH R decN) 136 18 [4,5,7,8] [] [4,7] []) 79 [4,5,7,8] [] [4,7] [] (rnSp decN) := mkL_ok fun a h =>
  ⟨_, _, _, _, fun k => rfl, rn_runs a.b a.s h.2.1 h.2.2.1 a.H R decN _ a.i a.n (Nat.le_refl _) h.1 h.2.2.2⟩
theorem layP1_ok : (layP1 (fun l => l.all dig) decN).OK Tryd.prog := layP0_ok.loop2 (id := 8) (id' := 18) (by kernel_rfl) (by kernel_rfl) (by kernel_rfl) (by kernel_rfl) (by kernel_rfl) rpSp_ok rnSp_ok
theorem rp_fun' (R : List UInt8 → Bool) (N : Nat → List UInt8 → Nat) (s : List UInt8) (k : Out → Ans) (c4 : Bool) (h4 : (bif decide ((s.length : Int) > 0) then ((s.getD 0 0).toNat : Int) == 45 else false) = c4) : iFun Tryd.prog ((layP1 R N).hd Tryd.prog) (layP1 R N).fhs 0 136 [.str s] [] k = (
  bif c4 then tailK R N c4 (s.drop 1) k else tailK R N c4 s k) := by
  subst h4
  refine (rp_fun R N s k).trans ?_
  have e1 : (s.take ((s.length : Nat) : Int).toNat).drop (Int.toNat 1) = s.drop 1 := by rw [Int.toNat_natCast, List.take_length]; rfl
  simp only [e1]
  by_cases h : 0 < s.length
  · have h0 : decide ((s.length : Int) > 0) = true := dT (by omega)
    have h1 : decide (0 < (s.length : Int)) = true := dT (by omega)
    have h2 : decide (1 ≤ (s.length : Int)) = true := dT (by omega)
    have h3 : decide ((s.length : Int) ≤ s.length) = true := dT (by omega)
    simp only [h0, h1, h2, h3, Bool.true_or, cond_true, Bool.and_self]
  · have h0 : decide ((s.length : Int) > 0) = false := dF (by omega)
    have h1 : decide (0 < (s.length : Int)) = false := dF (by omega)
    simp only [h0, h1, Bool.not_false, Bool.or_true, cond_true, cond_false]
theorem rp_call (s : List UInt8) (hs : s.length ≤ 1099511627776) (k : Out → Ans) : iFun Tryd.prog ((layP1 (fun l => l.all dig) decN).hd Tryd.prog) (layP1 (fun l => l.all dig) decN).fhs 0 136 [.str s] [] k = k (.ret (.tuple [.int .i64 (numM s).1, .int .i64 (numM s).2]) []) := by
  have hd : (s.drop 1).length ≤ s.length := by simp
  refine (rp_fun' _ _ s k ([45].isPrefixOf s) ?_).trans ?_
  · cases s with
    | nil => rfl
    | cons c t =>
      rw [dT (show ((c :: t).length : Int) > 0 by simp only [List.length_cons]; omega)]
      show ((c.toNat : Int) == 45) = ((45 : UInt8) == c && true)
      rw [Bool.and_true, eqc (show 45 < 256 by decide)]
      exact Bool.beq_comm
  · rw [num_tail]
    cases [45].isPrefixOf s with
    | true =>
      simp only [cond_true]
      exact tailK_eq true _ (by omega) k
    | false =>
      simp only [cond_false]
      exact tailK_eq false s hs k
theorem rpTold_ok : ∀ xs H k out, numTold xs H k = some out → ∃ o, CallOK Tryd.prog 136 xs H o ∧ k o = some out := mkFS_ok fun ys xs e h => by
  obtain ⟨s, rfl⟩ : ∃ s, xs = [.str s] := ⟨_, e⟩
  exact ⟨_, fun k => rfl, layP1_ok.callF (G := []) rfl (fun k => rp_call s (of_decide_eq_true h) k)⟩
/- Has, Begins -/
theorem hs_runs (s : List UInt8) (n : Int) (hs : s.length ≤ 1099511627776) (H : Heap) (R : List UInt8 → Int → Bool) : ∀ (m i : Nat), s.length - i ≤ m → i ≤ s.length →
    (anyI (s.drop i) n = true → LoopRuns (lturn Tryd.prog Lay.nil (hsFH R) 66 2 [0,1,5] [] [4] []) 17 [0,1,5] [] [4] [] [.str s, .int .u8 n, .int .i64 (i : Nat)] [] H .ret [.bool true] [] H) ∧
    (anyI (s.drop i) n = false → LoopRuns (lturn Tryd.prog Lay.nil (hsFH R) 66 2 [0,1,5] [] [4] []) 17 [0,1,5] [] [4] [] [.str s, .int .u8 n, .int .i64 (i : Nat)] [] H (.exit 0) [.undef] [] H) := by
  intro m
  induction m with
  | zero =>
    intro i hm hi
    have e : s.drop i = [] := List.drop_eq_nil_of_le (by omega)
    rw [e]
    refine ⟨(fun h => by cases h), fun _ => .stop (by simp) (fun D k => ?_)⟩
    rw [hs_step]
    simp (disch := omega) only [dF, cond_false]
  | succ m ih =>
    intro i hm hi
    have key := fun D k => hs_step R s n i H D k
    by_cases hlt : i < s.length
    · have ed := drop_cons_of s i 0 hlt
      simp (disch := omega) only [dT, cond_true, Bool.and_self, Int.toNat_natCast, wrap_add1] at key
      rw [ed, show anyI (s.getD i 0 :: s.drop (i + 1)) n = (((s.getD i 0).toNat : Int) == n || anyI (s.drop (i + 1)) n) from rfl]
      cases hc : ((s.getD i 0).toNat : Int) == n with
      | true =>
        simp only [hc, cond_true] at key
        exact ⟨fun _ => .stop (by simp) key, fun h => by cases h⟩
      | false =>
        simp only [hc, cond_false] at key
        rw [Bool.false_or]
        have := ih (i + 1) (by omega) (by omega)
        exact ⟨fun h => .step key (this.1 h), fun h => .step key (this.2 h)⟩
    · have e : s.drop i = [] := List.drop_eq_nil_of_le (by omega)
      rw [e]
      refine ⟨(fun h => by cases h), fun _ => .stop (by simp) (fun D k => ?_)⟩
      rw [hs_step]
      simp (disch := omega) only [dF, cond_false]
theorem hsSp_ok : SpOK (lturn Tryd.prog Lay.nil (hsFH anyI) 66 2 [0,1,5] [] [4] []) 17 [0,1,5] [] [4] [] (hsSp anyI) := mkL_ok fun a h => by
  have key := hs_runs a.s a.n h.2 a.H anyI _ a.i (Nat.le_refl _) h.1
  show ∃ e vs bs H, (∀ k : AExit → List AVal → List (List AVal) → Heap → Ans, cond (anyI (a.s.drop a.i) a.n) _ _ = k e vs bs H) ∧ _
  cases hb : anyI (a.s.drop a.i) a.n with
  | true => exact ⟨_, _, _, _, fun k => rfl, key.1 hb⟩
  | false => exact ⟨_, _, _, _, fun k => rfl, key.2 hb⟩
theorem layH1_ok : (layH1 anyI).OK Tryd.prog := Lay.nil_ok.loop1 (id := 2) (by kernel_rfl) (by kernel_rfl) (by kernel_rfl) hsSp_ok
def hasTold (R : List UInt8 → Int → Bool) : FSp := mkFS [.s, .i .u8] (fun xs => decide ((aS xs 0).length ≤ 1099511627776)) (fun xs k => k (.ret (.bool (R (aS xs 0) (aI xs 1))) []))
theorem hasTold_ok : ∀ xs H k out, hasTold anyI xs H k = some out → ∃ o, CallOK Tryd.prog 66 xs H o ∧ k o = some out := mkFS_ok fun ys xs e h => by
  obtain ⟨s, n, rfl⟩ : ∃ s n, xs = [.str s, .int .u8 n] := ⟨_, _, e⟩
  refine ⟨_, fun k => rfl, layH1_ok.callF (G := []) rfl (fun k => (hs_fun anyI s n k).trans ?_)⟩
  refine (congrArg (fun c => cond c _ none) (tst_true ⟨⟨Nat.zero_le _, of_decide_eq_true h⟩, .refl _, rfl, rfl⟩)).trans ?_
  simp only [cond_true, Int.toNat_zero, List.drop_zero]
  show _ = k (.ret (.bool (anyI s n)) [])
  cases anyI s n <;> rfl
def begTold : FSp := mkFS [.s, .s] (fun _ => true) (fun xs k => k (.ret (.bool ((aS xs 0).isPrefixOf (aS xs 1))) []))
theorem begin_take : ∀ (a b : List UInt8), a.isPrefixOf b = (bif decide ((a.length : Int) ≤ b.length) then b.take a.length == a else false)
  | [], b => by rw [List.isPrefixOf, dT (by simp)]; rfl
  | c :: a, [] => by rw [dF (show ¬ ((c :: a).length : Int) ≤ ([] : List UInt8).length by simp only [List.length_cons, List.length_nil]; omega)]; rfl
  | c :: a, d :: b => by
    have := begin_take a b
    rw [List.isPrefixOf, this, show decide (((c :: a).length : Int) ≤ (d :: b).length) = decide ((a.length : Int) ≤ b.length) from decide_eq_decide.2 (by simp)]
    cases decide ((a.length : Int) ≤ b.length) with
    | false => simp
    | true =>
      simp only [cond_true, List.length_cons, List.take_succ_cons]
      show (c == d && (b.take a.length == a)) = (d == c && (b.take a.length == a))
      rw [Bool.beq_comm]
theorem begTold_ok : ∀ xs H k out, begTold xs H k = some out → ∃ o, CallOK Tryd.prog 138 xs H o ∧ k o = some out := mkFS_ok fun ys xs e h => by
  obtain ⟨a, b, rfl⟩ : ∃ a b, xs = [.str a, .str b] := ⟨_, _, e⟩
  refine ⟨_, fun k => rfl, Lay.nil_ok.callF (G := []) rfl (fun k => (rbg_fun a b k).trans ?_)⟩
  show _ = k (.ret (.bool (a.isPrefixOf b)) [])
  rw [begin_take]
  simp only [Int.toNat_natCast, Int.toNat_zero, List.drop_zero]
  cases decide ((a.length : Int) ≤ b.length) <;> rfl
end Go.Mu
set_option linter.unusedVariables false
set_option linter.unusedSimpArgs false
set_option maxRecDepth 100000
namespace Go.Mu
open Go Go.Proofs
noncomputable def layW1 (R : List UInt8 → Int → Bool) : Lay := Lay.nil.addF 66 (hasTold R)
def byV (l : List UInt8) : AVal := match l with
  | [] => nilList
  | c :: r => .own 0 0 (r.length + 1) r.length false
def byH (l : List UInt8) : Heap := match l with
  | [] => []
  | c :: r => [.arr 1 ((c :: r).map byteRow) r.length]
def strF : List UInt8 → Bool
  | [] => true
  | [c] => bif c == 34 then false else !(c == 92 || c == 10)
  | c :: d :: u => bif c == 34 then false else bif c == 92 && decide (escI d ≥ 0) then strF u else bif c == 92 || c == 10 then false else strF (d :: u)
def strA : List UInt8 → List UInt8 → List UInt8
  | [], acc => acc
  | [c], acc => bif c == 34 then acc else bif c == 92 || c == 10 then acc else acc ++ [c]
  | c :: d :: u, acc => bif c == 34 then acc else bif c == 92 && decide (escI d ≥ 0) then strA u (acc ++ [escO d]) else bif c == 92 || c == 10 then acc else strA (d :: u) (acc ++ [c])
abbrev StW := List UInt8 → Nat → Nat → Bool × Heap × StQ
def strW : StW := fun s a i => (strF (s.drop i), byH (strA (s.drop i) []), strQ a (s.drop i) [] i)
noncomputable def stSp (W : StW) : LSp := mkL (fun vs _ H => (aS vs 0, (aI vs 1).toNat, (aI vs 3).toNat)) (fun x => x.2.2 ≤ x.1.length ∧ x.1.length ≤ 1099511627776) (fun x => [.str x.1, .int .i64 (x.2.1 : Nat), nilList, .int .i64 (x.2.2 : Nat)]) (fun _ => []) (fun _ => [])
  (fun x k => cond (W x.1 x.2.1 x.2.2).1 (k (.exit 0) [.int .i64 (x.2.1 : Nat), .undef, .undef, .undef, .undef] [] (W x.1 x.2.1 x.2.2).2.1)
    (k .ret [.int .i64 (x.2.1 : Nat), .str (W x.1 x.2.1 x.2.2).2.2.text, .int .i64 ((W x.1 x.2.1 x.2.2).2.2.to : Nat), .int .i64 (W x.1 x.2.1 x.2.2).2.2.e, .int .i64 ((W x.1 x.2.1 x.2.2).2.2.off : Nat)] [] (W x.1 x.2.1 x.2.2).2.1))
noncomputable def stFH (W : StW) : FH := .of [(3, loopSpec 68 [0,1,8,9] [] [1,4,5,6,7] [] (stSp W))]
theorem st_s0 (W : StW) (R : List UInt8 → Int → Bool) (s : List UInt8) (a i : Int) (D : List (FuncId × List AVal)) (k : Kont) : lturn Tryd.prog (layW1 R) (stFH W) 137 3 [0,1,8,9] [] [1,4,5,6,7] [] (stL 68 [0,1,8,9] [.str s, .int .i64 a, nilList, .int .i64 i] [] [] [] D) k = (
 let n0 : Int := (↑s.length : Int);
 let c1 : Bool := decide (i < n0);
 let n2 : Int := (↑(s.getD i.toNat 0).toNat : Int);
 let n3 : Int := IntKind.i64.wrap (i + 1);
 let c4 : Bool := decide (0 ≤ n3) && decide (n3 < n0);
 let c5 : Bool := decide (n3 ≥ n0);
 let n6 : Int := (↑(s.getD n3.toNat 0).toNat : Int);
  bif c1 then
  bif decide (0 ≤ i) && c1 then
  bif n2 == 34 then
  k AExit.ret
  (stL 68 [1, 4, 5, 6, 7]
  [AVal.int IntKind.i64 a, AVal.str [], AVal.int IntKind.i64 n3, AVal.int IntKind.i64 0, AVal.int IntKind.i64 0]
  [] [] [] D)
  else
  bif n2 == 10 then
  k AExit.ret
  (stL 68 [1, 4, 5, 6, 7]
  [AVal.int IntKind.i64 a, AVal.str [], AVal.int IntKind.i64 0, AVal.int IntKind.i64 33,
  AVal.int IntKind.i64 i]
  [] [] [] D)
  else
  bif n2 == 92 then
  bif c4 || !!c5 then
  bif bif c5 then true else !R [110, 116, 92, 34] n6 then
  k AExit.ret
  (stL 68 [1, 4, 5, 6, 7]
  [AVal.int IntKind.i64 a, AVal.str [], AVal.int IntKind.i64 0, AVal.int IntKind.i64 33,
  AVal.int IntKind.i64 i]
  [] [] [] D)
  else
  bif c4 then
  bif n6 == 110 then
  k AExit.normal
  (stL 68 [0, 1, 8, 9]
  [AVal.str s, AVal.int IntKind.i64 a, AVal.own 0 0 (0 + 1) 0 false,
  AVal.int IntKind.i64 (IntKind.i64.wrap (n3 + 1))]
  [] [] [Obj.arr 1 [[AVal.int IntKind.u8 10]] 0] D)
  else
  bif n6 == 116 then
  k AExit.normal
  (stL 68 [0, 1, 8, 9]
  [AVal.str s, AVal.int IntKind.i64 a, AVal.own 0 0 (0 + 1) 0 false,
  AVal.int IntKind.i64 (IntKind.i64.wrap (n3 + 1))]
  [] [] [Obj.arr 1 [[AVal.int IntKind.u8 9]] 0] D)
  else
  bif c4 then
  k AExit.normal
  (stL 68 [0, 1, 8, 9]
  [AVal.str s, AVal.int IntKind.i64 a, AVal.own 0 0 (0 + 1) 0 false,
  AVal.int IntKind.i64 (IntKind.i64.wrap (n3 + 1))]
  [] [] [Obj.arr 1 [[AVal.int IntKind.u8 n6]] 0] D)
  else none
  else none
  else none
  else
  k AExit.normal
  (stL 68 [0, 1, 8, 9]
  [AVal.str s, AVal.int IntKind.i64 a, AVal.own 0 0 (0 + 1) 0 false, AVal.int IntKind.i64 n3] [] []
  [Obj.arr 1 [[AVal.int IntKind.u8 n2]] 0] D)
  else none
  else
  k (AExit.exit 0)
      (stL 68 [1, 4, 5, 6, 7] [AVal.int IntKind.i64 a, AVal.undef, AVal.undef, AVal.undef, AVal.undef] [] [] [] D)) := by kernel_rfl
theorem st_s1 (W : StW) (R : List UInt8 → Int → Bool) (s : List UInt8) (a i : Int) (q v : Nat) (rows : List (List AVal)) (D : List (FuncId × List AVal)) (k : Kont) : lturn Tryd.prog (layW1 R) (stFH W) 137 3 [0,1,8,9] [] [1,4,5,6,7] [] (stL 68 [0,1,8,9] [.str s, .int .i64 a, .own 0 0 q v false, .int .i64 i] [] [] [.arr 1 rows v] D) k = (
 let n0 : Int := (↑s.length : Int);
 let c1 : Bool := decide (i < n0);
 let n2 : Int := (↑(s.getD i.toNat 0).toNat : Int);
 let c3 : Bool := v == v;
 let n4 : Int := IntKind.i64.wrap (i + 1);
 let c5 : Bool := decide (0 ≤ n4) && decide (n4 < n0);
 let c6 : Bool := decide (n4 ≥ n0);
 let n7 : Int := (↑(s.getD n4.toNat 0).toNat : Int);
 let m8 : Nat := q + 1;
 let c9 : Bool := c3 && q == rows.length && decide ((2 * m8 + 1000) * 1 ≤ 281474976710656) && true;
 let m10 : Nat := v + 1;
  bif c1 then
  bif decide (0 ≤ i) && c1 then
  bif n2 == 34 then
  bif decide ((↑q : Int) > 4096) then
  k AExit.ret
  (stL 68 [1, 4, 5, 6, 7]
  [AVal.int IntKind.i64 a, AVal.str [], AVal.int IntKind.i64 0, AVal.int IntKind.i64 5,
  AVal.int IntKind.i64 a]
  [] [] [Obj.arr 1 rows v] D)
  else
  bif
  c3 && true && decide (0 + q ≤ rows.length) &&
  (List.take q (List.drop 0 rows)).all fun (r : List AVal) =>
  match r with
  | [v] => isInt IntKind.u8 v
  | x => false then
  k AExit.ret
  (stL 68 [1, 4, 5, 6, 7]
  [AVal.int IntKind.i64 a,
  AVal.str
  (List.map (fun (r : List AVal) => UInt8.ofNat (intOf (r.getD 0 AVal.undef)).toNat)
  (List.take q (List.drop 0 rows))),
  AVal.int IntKind.i64 n4, AVal.int IntKind.i64 0, AVal.int IntKind.i64 0]
  [] [] [Obj.arr 1 rows v] D)
  else none
  else
  bif n2 == 10 then
  k AExit.ret
  (stL 68 [1, 4, 5, 6, 7]
  [AVal.int IntKind.i64 a, AVal.str [], AVal.int IntKind.i64 0, AVal.int IntKind.i64 33,
  AVal.int IntKind.i64 i]
  [] [] [Obj.arr 1 rows v] D)
  else
  bif n2 == 92 then
  bif c5 || !!c6 then
  bif bif c6 then true else !R [110, 116, 92, 34] n7 then
  k AExit.ret
  (stL 68 [1, 4, 5, 6, 7]
  [AVal.int IntKind.i64 a, AVal.str [], AVal.int IntKind.i64 0, AVal.int IntKind.i64 33,
  AVal.int IntKind.i64 i]
  [] [] [Obj.arr 1 rows v] D)
  else
  bif c5 then
  bif n7 == 110 then
  bif c9 then
  k AExit.normal
  (stL 68 [0, 1, 8, 9]
  [AVal.str s, AVal.int IntKind.i64 a, AVal.own 0 0 m8 m10 false,
  AVal.int IntKind.i64 (IntKind.i64.wrap (n4 + 1))]
  [] [] [Obj.arr 1 (rows.append [[AVal.int IntKind.u8 10]]) m10] D)
  else none
  else
  bif n7 == 116 then
  bif c9 then
  k AExit.normal
  (stL 68 [0, 1, 8, 9]
  [AVal.str s, AVal.int IntKind.i64 a, AVal.own 0 0 m8 m10 false,
  AVal.int IntKind.i64 (IntKind.i64.wrap (n4 + 1))]
  [] [] [Obj.arr 1 (rows.append [[AVal.int IntKind.u8 9]]) m10] D)
  else none
  else
  bif c5 then
  bif c9 then
  k AExit.normal
  (stL 68 [0, 1, 8, 9]
  [AVal.str s, AVal.int IntKind.i64 a, AVal.own 0 0 m8 m10 false,
  AVal.int IntKind.i64 (IntKind.i64.wrap (n4 + 1))]
  [] [] [Obj.arr 1 (rows.append [[AVal.int IntKind.u8 n7]]) m10] D)
  else none
  else none
  else none
  else none
  else
  bif c9 then
  k AExit.normal
  (stL 68 [0, 1, 8, 9]
  [AVal.str s, AVal.int IntKind.i64 a, AVal.own 0 0 m8 m10 false, AVal.int IntKind.i64 n4] [] []
  [Obj.arr 1 (rows.append [[AVal.int IntKind.u8 n2]]) m10] D)
  else none
  else none
  else
  k (AExit.exit 0)
  (stL 68 [1, 4, 5, 6, 7] [AVal.int IntKind.i64 a, AVal.undef, AVal.undef, AVal.undef, AVal.undef] [] []
        [Obj.arr 1 rows v] D)) := by kernel_rfl
theorem by_snoc (l : List UInt8) (c : UInt8) : byV (l ++ [c]) = .own 0 0 (l.length + 1) l.length false ∧ byH (l ++ [c]) = [.arr 1 ((l ++ [c]).map byteRow) l.length] := by
  cases l with
  | nil => exact ⟨rfl, rfl⟩
  | cons a r => simp [byV, byH]
theorem esc_has (d : UInt8) : anyI [110, 116, 92, 34] (d.toNat : Int) = decide (escI d ≥ 0) := by
  have h : ∀ n : Fin 256, anyI [110, 116, 92, 34] ((UInt8.ofNat n).toNat : Int) = decide (escI (UInt8.ofNat n) ≥ 0) := by decide +kernel
  have := h ⟨d.toNat, d.toNat_lt⟩
  simpa using this
theorem esc_val (d : UInt8) (h : escI d ≥ 0) : escO d = bif d == 110 then 10 else bif d == 116 then 9 else d := by
  have h2 : ∀ n : Fin 256, escI (UInt8.ofNat n) ≥ 0 → escO (UInt8.ofNat n) = bif UInt8.ofNat n == 110 then 10 else bif UInt8.ofNat n == 116 then 9 else UInt8.ofNat n := by decide +kernel
  have := h2 ⟨d.toNat, d.toNat_lt⟩
  simp only [UInt8.ofNat_toNat] at this
  exact this h
theorem by_all (l : List UInt8) : ((l.map byteRow).all fun (r : List AVal) => match r with | [v] => isInt IntKind.u8 v | x => false) = true := by
  refine List.all_eq_true.2 (fun r hr => ?_)
  obtain ⟨c, _, rfl⟩ := List.mem_map.1 hr
  rfl
theorem by_back (l : List UInt8) : (l.map byteRow).map (fun (r : List AVal) => UInt8.ofNat (intOf (r.getD 0 AVal.undef)).toNat) = l := by
  rw [List.map_map]
  conv => rhs; rw [← List.map_id l]
  refine List.map_congr_left (fun c _ => ?_)
  show UInt8.ofNat ((c.toNat : Int)).toNat = c
  rw [Int.toNat_natCast, UInt8.ofNat_toNat]
noncomputable abbrev stTurn := lturn Tryd.prog (layW1 anyI) (stFH strW) 137 3 [0,1,8,9] [] [1,4,5,6,7] []
abbrev stI (s : List UInt8) (a : Int) (acc : List UInt8) (i : Nat) : List AVal := [.str s, .int .i64 a, byV acc, .int .i64 (i : Nat)]
abbrev stO (a : Int) (t : List UInt8) (x e p : Int) : List AVal := [.int .i64 a, .str t, .int .i64 x, .int .i64 e, .int .i64 p]
theorem st_round (s : List UInt8) (hs : s.length ≤ 1099511627776) (a : Int) (acc : List UInt8) (i : Nat) (hi : i ≤ s.length) (ha : acc.length ≤ i) (D : List (FuncId × List AVal)) (k : Kont) : stTurn (stL 68 [0,1,8,9] (stI s a acc i) [] [] (byH acc) D) k =
    bif decide (i < s.length) then
      bif s.getD i 0 == 34 then (bif decide (acc.length ≤ 4096) then k .ret (stL 68 [1,4,5,6,7] (stO a acc ((i + 1 : Nat) : Int) 0 0) [] [] (byH acc) D) else k .ret (stL 68 [1,4,5,6,7] (stO a [] 0 5 a) [] [] (byH acc) D))
      else bif s.getD i 0 == 10 then k .ret (stL 68 [1,4,5,6,7] (stO a [] 0 33 i) [] [] (byH acc) D)
      else bif s.getD i 0 == 92 then (bif decide (i + 1 < s.length) && decide (escI (s.getD (i + 1) 0) ≥ 0) then k .normal (stL 68 [0,1,8,9] (stI s a (acc ++ [escO (s.getD (i + 1) 0)]) (i + 2)) [] [] (byH (acc ++ [escO (s.getD (i + 1) 0)])) D)
        else k .ret (stL 68 [1,4,5,6,7] (stO a [] 0 33 i) [] [] (byH acc) D))
      else k .normal (stL 68 [0,1,8,9] (stI s a (acc ++ [s.getD i 0]) (i + 1)) [] [] (byH (acc ++ [s.getD i 0])) D)
    else k (.exit 0) (stL 68 [1,4,5,6,7] [.int .i64 a, .undef, .undef, .undef, .undef] [] [] (byH acc) D) := by
  have e1 : IntKind.i64.wrap ((i : Int) + 1) = ((i + 1 : Nat) : Int) := wrap_add1 (by omega)
  have e2 : IntKind.i64.wrap (((i + 1 : Nat) : Int) + 1) = ((i + 2 : Nat) : Int) := wrap_add1 (by omega)
  cases acc with
  | nil =>
    refine (st_s0 strW anyI s a i D k).trans ?_
    simp only [e1, e2, Int.toNat_natCast]
    by_cases h : i < s.length
    case neg => simp only [dF h, dF (show ¬ (i : Int) < s.length by omega), cond_false]; rfl
    simp only [dT h, dT (show (i : Int) < s.length by omega), dT (show (0 : Int) ≤ i by omega), cond_true, Bool.and_self, eqc (show 34 < 256 by decide), eqc (show 10 < 256 by decide), eqc (show 92 < 256 by decide), eqc (show 110 < 256 by decide), eqc (show 116 < 256 by decide), esc_has]
    cases s.getD i 0 == 34 with
    | true => rfl
    | false =>
      simp only [cond_false]
      cases s.getD i 0 == 10 with
      | true => rfl
      | false =>
        simp only [cond_false]
        cases s.getD i 0 == 92 with
        | false => rfl
        | true =>
          simp only [cond_true]
          by_cases h2 : i + 1 < s.length
          · simp only [dT h2, dT (show ((i + 1 : Nat) : Int) < s.length by omega), dT (show (0 : Int) ≤ ((i + 1 : Nat) : Int) by omega), dF (show ¬ ((i + 1 : Nat) : Int) ≥ s.length by omega), Bool.true_or, cond_true, cond_false, Bool.and_self, Bool.true_and]
            by_cases h3 : escI (s.getD (i + 1) 0) ≥ 0
            · simp only [dT h3, Bool.not_true, cond_false, cond_true, esc_val _ h3]
              generalize hd : s.getD (i + 1) 0 = d
              cases d == 110 with
              | true => rfl
              | false =>
                cases d == 116 with
                | true => rfl
                | false => rfl
            · simp only [dF h3, Bool.not_false, cond_true, cond_false]; rfl
          · simp only [dF h2, dF (show ¬ ((i + 1 : Nat) : Int) < s.length by omega), dT (show ((i + 1 : Nat) : Int) ≥ s.length by omega), Bool.not_true, Bool.not_false, Bool.or_true, cond_true, Bool.false_and, cond_false]; rfl
  | cons b r =>
    have hq : ((r.length + 1 == ((b :: r).map byteRow).length)) = true := by simp
    simp only [List.length_cons] at ha
    refine (st_s1 strW anyI s a i (r.length + 1) r.length ((b :: r).map byteRow) D k).trans ?_
    have hz : decide ((2 * (r.length + 1 + 1) + 1000) * 1 ≤ 281474976710656) = true := dT (by omega)
    have hz0 : decide (0 + (r.length + 1) ≤ ((b :: r).map byteRow).length) = true := dT (by simp)
    have htk : List.take (r.length + 1) (List.drop 0 ((b :: r).map byteRow)) = (b :: r).map byteRow := by rw [List.drop_zero]; exact List.take_of_length_le (by simp)
    simp only [e1, e2, Int.toNat_natCast, hq, hz, hz0, htk, by_all, by_back, beq_self_eq_true, Bool.and_self, cond_true]
    have ap : ∀ (c : UInt8), ((b :: r).map byteRow).append [[AVal.int IntKind.u8 (c.toNat : Int)]] = (b :: r ++ [c]).map byteRow := fun c => by
      show (b :: r).map byteRow ++ [byteRow c] = _
      rw [List.map_append]; rfl
    have ap1 : ((b :: r).map byteRow).append [[AVal.int IntKind.u8 10]] = (b :: r ++ [10]).map byteRow := ap 10
    have ap2 : ((b :: r).map byteRow).append [[AVal.int IntKind.u8 9]] = (b :: r ++ [9]).map byteRow := ap 9
    have sv : ∀ c, byV (b :: r ++ [c]) = .own 0 0 (r.length + 1 + 1) (r.length + 1) false := fun c => (by_snoc (b :: r) c).1
    have sh : ∀ c, byH (b :: r ++ [c]) = [.arr 1 ((b :: r ++ [c]).map byteRow) (r.length + 1)] := fun c => (by_snoc (b :: r) c).2
    by_cases h : i < s.length
    case neg => simp only [dF h, dF (show ¬ (i : Int) < s.length by omega), cond_false]; rfl
    simp only [dT h, dT (show (i : Int) < s.length by omega), dT (show (0 : Int) ≤ i by omega), cond_true, Bool.and_self, eqc (show 34 < 256 by decide), eqc (show 10 < 256 by decide), eqc (show 92 < 256 by decide), eqc (show 110 < 256 by decide), eqc (show 116 < 256 by decide), esc_has]
    cases s.getD i 0 == 34 with
    | true =>
      simp only [cond_true]
      rw [show decide (((r.length + 1 : Nat) : Int) > 4096) = !decide ((b :: r).length ≤ 4096) by rw [← decide_not]; exact decide_eq_decide.2 (by simp only [List.length_cons]; omega)]
      cases decide ((b :: r).length ≤ 4096) <;> rfl
    | false =>
      simp only [cond_false]
      cases s.getD i 0 == 10 with
      | true => rfl
      | false =>
        simp only [cond_false]
        cases s.getD i 0 == 92 with
        | false => simp only [cond_false, ap, stI, sv, sh]
        | true =>
          simp only [cond_true]
          by_cases h2 : i + 1 < s.length
          · simp only [dT h2, dT (show ((i + 1 : Nat) : Int) < s.length by omega), dT (show (0 : Int) ≤ ((i + 1 : Nat) : Int) by omega), dF (show ¬ ((i + 1 : Nat) : Int) ≥ s.length by omega), Bool.true_or, cond_true, cond_false, Bool.and_self, Bool.true_and]
            by_cases h3 : escI (s.getD (i + 1) 0) ≥ 0
            · simp only [dT h3, Bool.not_true, cond_false, cond_true, esc_val _ h3, ap]
              generalize hd : s.getD (i + 1) 0 = d
              cases d == 110 with
              | true => simp only [cond_true, ap1, stI, sv, sh]
              | false =>
                cases d == 116 with
                | true => simp only [cond_true, cond_false, ap2, stI, sv, sh]
                | false => simp only [cond_false, stI, sv, sh]
            · simp only [dF h3, Bool.not_false, cond_true, cond_false]; rfl
          · simp only [dF h2, dF (show ¬ ((i + 1 : Nat) : Int) < s.length by omega), dT (show ((i + 1 : Nat) : Int) ≥ s.length by omega), Bool.not_true, Bool.not_false, Bool.or_true, cond_true, Bool.false_and, cond_false]; rfl
noncomputable def layW2 (W : StW) : Lay := (layW1 anyI).addL 137 (stFH W)
theorem st_fun (W : StW) (s : List UInt8) (a : Int) (k : Out → Ans) : iFun Tryd.prog ((layW2 W).hd Tryd.prog) (layW2 W).fhs 0 137 [.str s, .int .i64 a] [] k = (
 let n0 : Int := IntKind.i64.wrap (a + 1);
 let m1 : Nat := n0.toNat;
  bif
  tst
  ((m1 ≤ s.length ∧ s.length ≤ 1099511627776) ∧
  SubTL [AVal.str s, AVal.int IntKind.i64 a, AVal.list true 0 fun (x : Nat) => [], AVal.int IntKind.i64 n0]
  [AVal.str s, AVal.int IntKind.i64 (↑a.toNat : Int), AVal.list true 0 fun (x : Nat) => [],
  AVal.int IntKind.i64 (↑m1 : Int)] ∧
  ([] : List (List AVal)) = [] ∧ ([] : Heap) = []) then
  bif (W s a.toNat m1).fst then
  k
  (Out.ret
  (AVal.tuple
  [AVal.str [], AVal.int IntKind.i64 0, AVal.int IntKind.i64 33, AVal.int IntKind.i64 (↑a.toNat : Int)])
  (W s a.toNat m1).snd.fst)
  else
  k
  (Out.ret
  (AVal.tuple
  [AVal.str (W s a.toNat m1).snd.snd.text, AVal.int IntKind.i64 (↑(W s a.toNat m1).snd.snd.to : Int),
  AVal.int IntKind.i64 (W s a.toNat m1).snd.snd.e,
  AVal.int IntKind.i64 (↑(W s a.toNat m1).snd.snd.off : Int)])
  (W s a.toNat m1).snd.fst)
  else none) := by kernel_rfl
theorem st_runs (s : List UInt8) (hs : s.length ≤ 1099511627776) (a : Nat) : ∀ (m i : Nat) (acc : List UInt8), s.length - i ≤ m → i ≤ s.length → acc.length ≤ i →
    (strF (s.drop i) = true → LoopRuns stTurn 68 [0,1,8,9] [] [1,4,5,6,7] [] (stI s (a : Nat) acc i) [] (byH acc) (.exit 0) [.int .i64 (a : Nat), .undef, .undef, .undef, .undef] [] (byH (strA (s.drop i) acc)) ∧ strQ a (s.drop i) acc i = ⟨33, a, [], 0⟩) ∧
    (strF (s.drop i) = false → LoopRuns stTurn 68 [0,1,8,9] [] [1,4,5,6,7] [] (stI s (a : Nat) acc i) [] (byH acc) .ret (stO a (strQ a (s.drop i) acc i).text ((strQ a (s.drop i) acc i).to : Nat) (strQ a (s.drop i) acc i).e ((strQ a (s.drop i) acc i).off : Nat)) [] (byH (strA (s.drop i) acc))) := by
  intro m
  induction m with
  | zero =>
    intro i acc hm hi ha
    have e : s.drop i = [] := List.drop_eq_nil_of_le (by omega)
    rw [e]
    refine ⟨fun _ => ⟨.stop (by simp) (fun D k => ?_), rfl⟩, fun h => by cases h⟩
    rw [st_round s hs a acc i hi ha D k, dF (by omega)]
    rfl
  | succ m ih =>
    intro i acc hm hi ha
    have key := fun D k => st_round s hs (a : Nat) acc i hi ha D k
    by_cases h : i < s.length
    case neg =>
      have e : s.drop i = [] := List.drop_eq_nil_of_le (by omega)
      rw [e]
      refine ⟨fun _ => ⟨.stop (by simp) (fun D k => ?_), rfl⟩, fun h => by cases h⟩
      rw [key, dF h]
      rfl
    simp only [dT h, cond_true] at key
    have ed := drop_cons_of s i 0 h
    by_cases h2 : i + 1 < s.length
    · have ed2 := drop_cons_of s (i + 1) 0 h2
      simp only [dT h2, Bool.true_and] at key
      rw [ed, ed2]
      generalize hc : s.getD i 0 = c at key
      generalize hd : s.getD (i + 1) 0 = d at key ed2
      have eu : s.drop (i + 1 + 1) = s.drop (i + 2) := rfl
      rw [strF, strA, strQ]
      cases h34 : c == 34 with
      | true =>
        simp only [h34, cond_true] at key ⊢
        refine ⟨(fun h => by cases h), fun _ => ?_⟩
        cases h4 : decide (acc.length ≤ 4096) <;> simp only [h4, cond_true, cond_false] at key ⊢ <;> exact .stop (by simp) key
      | false =>
        simp only [h34, cond_false] at key ⊢
        cases h10 : c == 10 with
        | true =>
          have h92 : (c == 92) = false := by rw [beq_iff_eq] at h10; subst h10; rfl
          simp only [h10, h92, cond_true, cond_false, Bool.false_and, Bool.or_true] at key ⊢
          exact ⟨(fun h => by cases h), fun _ => .stop (by simp) key⟩
        | false =>
          simp only [h10, cond_false, Bool.or_false] at key ⊢
          cases h92 : c == 92 with
          | true =>
            simp only [h92, cond_true, Bool.true_and] at key ⊢
            cases h3 : decide (escI d ≥ 0) with
            | true =>
              simp only [h3, cond_true] at key ⊢
              have := ih (i + 2) (acc ++ [escO d]) (by omega) (by omega) (by rw [List.length_append]; show _ + 1 ≤ _; omega)
              exact ⟨fun h => ⟨.step key (this.1 h).1, (this.1 h).2⟩, fun h => .step key (this.2 h)⟩
            | false =>
              simp only [h3, cond_false] at key ⊢
              exact ⟨(fun h => by cases h), fun _ => .stop (by simp) key⟩
          | false =>
            simp only [h92, cond_false, Bool.false_and] at key ⊢
            have := ih (i + 1) (acc ++ [c]) (by omega) (by omega) (by rw [List.length_append]; show _ + 1 ≤ _; omega)
            rw [ed2] at this
            exact ⟨fun h => ⟨.step key (this.1 h).1, (this.1 h).2⟩, fun h => .step key (this.2 h)⟩
    · have ed2 : s.drop (i + 1) = [] := List.drop_eq_nil_of_le (by omega)
      simp only [dF h2, Bool.false_and, cond_false] at key
      rw [ed, ed2]
      generalize hc : s.getD i 0 = c at key
      rw [strF, strA, strQ]
      cases h34 : c == 34 with
      | true =>
        simp only [h34, cond_true] at key ⊢
        refine ⟨(fun h => by cases h), fun _ => ?_⟩
        cases h4 : decide (acc.length ≤ 4096) <;> simp only [h4, cond_true, cond_false] at key ⊢ <;> exact .stop (by simp) key
      | false =>
        simp only [h34, cond_false] at key ⊢
        cases h10 : c == 10 with
        | true =>
          simp only [h10, cond_true, Bool.or_true, Bool.not_true] at key ⊢
          exact ⟨(fun h => by cases h), fun _ => .stop (by simp) key⟩
        | false =>
          simp only [h10, cond_false, Bool.or_false] at key ⊢
          cases h92 : c == 92 with
          | true =>
            simp only [h92, cond_true, Bool.not_true] at key ⊢
            exact ⟨(fun h => by cases h), fun _ => .stop (by simp) key⟩
          | false =>
            simp only [h92, cond_false, Bool.not_false] at key ⊢
            have := ih (i + 1) (acc ++ [c]) (by omega) (by omega) (by rw [List.length_append]; show _ + 1 ≤ _; omega)
            rw [ed2] at this
            exact ⟨fun _ => ⟨.step key (this.1 rfl).1, by trivial⟩, fun h => by cases h⟩
theorem stSp_ok : SpOK stTurn 68 [0,1,8,9] [] [1,4,5,6,7] [] (stSp strW) := mkL_ok fun x h => by
  obtain ⟨s, a, i⟩ := x
  have key := st_runs s h.2 a _ i [] (Nat.le_refl _) h.1 (Nat.zero_le _)
  show ∃ e vs bs H, (∀ k : AExit → List AVal → List (List AVal) → Heap → Ans, cond (strF (s.drop i)) _ _ = k e vs bs H) ∧ _
  cases hb : strF (s.drop i) with
  | true => exact ⟨_, _, _, _, fun k => rfl, (key.1 hb).1⟩
  | false => exact ⟨_, _, _, _, fun k => rfl, key.2 hb⟩
theorem strE_eq (s : List UInt8) (a : Nat) : ∀ (m : Nat) (t acc : List UInt8) (i : Nat), t.length ≤ m → strF t = true → strQ a t acc i = ⟨33, a, [], 0⟩
  | _, [], acc, i, _, _ => rfl
  | _, [c], acc, i, _, h => by
    rw [strF] at h
    rw [strQ]
    cases h1 : c == 34 with
    | true => rw [h1] at h; cases h
    | false =>
      rw [h1, cond_false] at h
      cases h2 : c == 92 || c == 10 with
      | true => rw [h2] at h; cases h
      | false => rfl
  | m + 1, c :: d :: u, acc, i, hm, h => by
    simp only [List.length_cons] at hm
    rw [strF] at h
    rw [strQ]
    cases h1 : c == 34 with
    | true => rw [h1] at h; cases h
    | false =>
      simp only [h1, cond_false] at h ⊢
      cases h2 : c == 92 && decide (escI d ≥ 0) with
      | true =>
        simp only [h2, cond_true] at h ⊢
        exact strE_eq s a m u _ _ (by omega) h
      | false =>
        simp only [h2, cond_false] at h ⊢
        cases h3 : c == 92 || c == 10 with
        | true => rw [h3] at h; cases h
        | false =>
          simp only [h3, cond_false] at h ⊢
          exact strE_eq s a m (d :: u) _ _ (by simp only [List.length_cons]; omega) h
  | 0, c :: d :: u, acc, i, hm, _ => by simp at hm
theorem layW1_ok : (layW1 anyI).OK Tryd.prog := Lay.nil_ok.addF hasTold_ok
theorem layW2_ok : (layW2 strW).OK Tryd.prog := layW1_ok.loop1 (id := 3) (by kernel_rfl) (by kernel_rfl) (by kernel_rfl) stSp_ok
def strQ1 (s : List UInt8) (a : Nat) : StQ := strQ a (s.drop (a + 1)) [] (a + 1)
def sqTold (Q : List UInt8 → Nat → StQ) : FSp := mkFS [.s, .i .i64] (fun xs => decide (0 ≤ aI xs 1 ∧ (aI xs 1).toNat < (aS xs 0).length ∧ (aS xs 0).length ≤ 1099511627776))
  (fun xs k => k (.ret (.tuple [.str (Q (aS xs 0) (aI xs 1).toNat).text, .int .i64 ((Q (aS xs 0) (aI xs 1).toNat).to : Nat), .int .i64 (Q (aS xs 0) (aI xs 1).toNat).e, .int .i64 ((Q (aS xs 0) (aI xs 1).toNat).off : Nat)]) []))
theorem sqTold_ok : ∀ xs H k out, sqTold strQ1 xs H k = some out → ∃ o, CallOK Tryd.prog 137 xs H o ∧ k o = some out := mkFS_ok fun ys xs e hx => by
  obtain ⟨s, n, rfl⟩ : ∃ s n, xs = [.str s, .int .i64 n] := ⟨_, _, e⟩
  replace hx : 0 ≤ n ∧ n.toNat < s.length ∧ s.length ≤ 1099511627776 := of_decide_eq_true hx
  obtain ⟨a, rfl⟩ : ∃ a : Nat, n = a := ⟨n.toNat, by omega⟩
  have h1 : a < s.length := hx.2.1
  have key := fun k => st_fun strW s a k
  have e1 : IntKind.i64.wrap ((a : Int) + 1) = ((a + 1 : Nat) : Int) := wrap_add1 (by omega)
  simp only [e1, Int.toNat_natCast] at key
  replace key := fun k => (key k).trans ((congrArg (fun c => cond c _ none) (tst_true ⟨⟨show a + 1 ≤ s.length by omega, hx.2.2⟩, .refl _, by trivial, by trivial⟩)).trans rfl)
  refine ⟨_, fun k => rfl, layW2_ok.callF (G := byH (strA (s.drop (a + 1)) [])) rfl (fun k => (key k).trans ?_)⟩
  show (bif strF (s.drop (a + 1)) then k _ else k _) = k (.ret (.tuple [.str (strQ1 s a).text, .int .i64 ((strQ1 s a).to : Nat), .int .i64 (strQ1 s a).e, .int .i64 ((strQ1 s a).off : Nat)]) _)
  cases hb : strF (s.drop (a + 1)) with
  | true =>
    rw [show strQ1 s a = ⟨33, a, [], 0⟩ from strE_eq s a _ _ [] (a + 1) (Nat.le_refl _) hb]
    rfl
  | false => rfl
end Go.Mu
set_option linter.unusedVariables false
set_option linter.unusedSimpArgs false
set_option maxRecDepth 100000
namespace Go.Mu
open Go Go.Proofs
theorem scan_runsB {m0 mx : List Nat} {bs : List (List AVal)} {turn : St → Kont → Ans} {n : Nat} {l lx : List Nat} {vs ws : Nat → List AVal} {H : Heap} {e : Nat} {s : List UInt8} {p : UInt8 → Bool}
    (h : ∀ (i : Nat) (D : List (FuncId × List AVal)) (k : Kont), i ≤ s.length → turn (stL n l (vs i) m0 bs H D) k = bif decide (i < s.length) && p (s.getD i 0) then k .normal (stL n l (vs (i + 1)) m0 bs H D) else k (.exit e) (stL n lx (ws i) mx bs H D)) :
    ∀ (m i : Nat), s.length - i ≤ m → i ≤ s.length → LoopRuns turn n l m0 lx mx (vs i) bs H (.exit e) (ws (i + ((s.drop i).takeWhile p).length)) bs H
  | 0, i, hm, hi => by
    have e0 : s.drop i = [] := List.drop_eq_nil_of_le (by omega)
    rw [e0]
    refine .stop (by simp) (fun D k => ?_)
    rw [h i D k hi, dF (by omega)]
    rfl
  | m + 1, i, hm, hi => by
    by_cases hlt : i < s.length
    · have ed := drop_cons_of s i 0 hlt
      rw [ed, List.takeWhile_cons]
      cases hp : p (s.getD i 0) with
      | true =>
        have ih := scan_runsB h m (i + 1) (by omega) (by omega)
        rw [show i + 1 + ((s.drop (i + 1)).takeWhile p).length = i + (s.getD i 0 :: (s.drop (i + 1)).takeWhile p).length by rw [List.length_cons]; omega] at ih
        refine .step (fun D k => ?_) ih
        rw [h i D k hi, dT hlt, hp]
        rfl
      | false =>
        refine .stop (by simp) (fun D k => ?_)
        rw [h i D k hi, hp, Bool.and_false]
        rfl
    · have e0 : s.drop i = [] := List.drop_eq_nil_of_le (by omega)
      rw [e0]
      refine .stop (by simp) (fun D k => ?_)
      rw [h i D k hi, dF hlt]
      rfl
structure RgA where
  s : List UInt8
  a : Int
  i : Nat
  e : Int
  b4 : List AVal
  b11 : List AVal
  H : Heap
def rgN (s : List UInt8) (i : Nat) : Nat := i + ((s.drop i).takeWhile dig).length
abbrev rgV (s : List UInt8) (a : Int) (i : Nat) (e : Int) : List AVal := [.str s, .int .i64 a, .ptr (.tmp 4) 0, .int .i64 (i : Nat), .int .i64 e, .ptr (.tmp 11) 0]
noncomputable def rgSp (R : List UInt8 → Nat → Nat) : LSp := mkL (fun vs bs H => RgA.mk (aS vs 0) (aI vs 1) (aI vs 3).toNat (aI vs 4) (bs.getD 0 []) (bs.getD 1 []) H) (fun x => x.i ≤ x.s.length ∧ x.s.length ≤ 1099511627776) (fun x => rgV x.s x.a x.i x.e) (fun x => [x.b4, x.b11]) (fun x => x.H)
  (fun x k => k (.exit 1) (rgV x.s x.a (R x.s x.i) x.e) [x.b4, x.b11] x.H)
noncomputable def rgFH (R : List UInt8 → Nat → Nat) : FH := .of [(23, loopSpec 145 [0,1,4,9,10,11] [4,11] [0,1,4,9,10,11] [4,11] (rgSp R))]
noncomputable def layY (B : FSp) (N : List UInt8 → Nat → Nat) (M : List UInt8 → Nat → Int × Nat) (Q : List UInt8 → Nat → StQ) : Lay := ((((((Lay.nil.addF 132 B).addF 133 (posTold N)).addF 134 (dotTold M)).addF 135 (octTold rDgt)).addF 136 numTold).addF 137 (sqTold Q)).addF 138 begTold
theorem layY_ok : (layY beginTold nameN rdM strQ1).OK Tryd.prog := ((((((Lay.nil_ok.addF beginTold_ok).addF nmTold_ok).addF rdTold_ok).addF (octTold_ok rDigit_fun)).addF rpTold_ok).addF sqTold_ok).addF begTold_ok
theorem rg_step (N : List UInt8 → Nat → Nat) (M : List UInt8 → Nat → Int × Nat) (Q : List UInt8 → Nat → StQ) (R : List UInt8 → Nat → Nat) (s : List UInt8) (a i e : Int) (b4 b11 : List AVal) (H : Heap) (D : List (FuncId × List AVal)) (k : Kont) : lturn Tryd.prog (layY beginTold N M Q) (rgFH R) 76 23 [0,1,4,9,10,11] [4,11] [0,1,4,9,10,11] [4,11] (stL 145 [0,1,4,9,10,11] [.str s, .int .i64 a, .ptr (.tmp 4) 0, .int .i64 i, .int .i64 e, .ptr (.tmp 11) 0] [4,11] [b4, b11] H D) k = (
 let c0 : Bool := decide (i < (↑s.length : Int));
  bif decide (0 ≤ i) && c0 || !c0 then
  bif bif c0 then rDgt (↑(s.getD i.toNat 0).toNat : Int) else false then
  k AExit.normal
  (stL 145 [0, 1, 4, 9, 10, 11]
  [AVal.str s, AVal.int IntKind.i64 a, AVal.ptr (Oid.tmp 4) 0, AVal.int IntKind.i64 (IntKind.i64.wrap (i + 1)),
  AVal.int IntKind.i64 e, AVal.ptr (Oid.tmp 11) 0]
  [4, 11] [b4, b11] H D)
  else
  k (AExit.exit 1)
  (stL 145 [0, 1, 4, 9, 10, 11]
  [AVal.str s, AVal.int IntKind.i64 a, AVal.ptr (Oid.tmp 4) 0, AVal.int IntKind.i64 i, AVal.int IntKind.i64 e,
  AVal.ptr (Oid.tmp 11) 0]
  [4, 11] [b4, b11] H D)
  else none) := by kernel_rfl
noncomputable def layY2 (N : List UInt8 → Nat → Nat) (M : List UInt8 → Nat → Int × Nat) (Q : List UInt8 → Nat → StQ) (R : List UInt8 → Nat → Nat) : Lay := (layY beginTold N M Q).addL 76 (rgFH R)
theorem wo_fun (N : List UInt8 → Nat → Nat) (M : List UInt8 → Nat → Int × Nat) (Q : List UInt8 → Nat → StQ) (R : List UInt8 → Nat → Nat) (s : List UInt8) (a : Int) (k : Out → Ans) : iFun Tryd.prog ((layY2 N M Q R).hd Tryd.prog) (layY2 N M Q R).fhs 0 76 [.str s, .int .i64 a] [] k = (
 let c0 : Bool := decide (0 ≤ a);
 let n1 : Int := (↑s.length : Int);
 let c2 : Bool := decide (0 ≤ a ∧ a.toNat ≤ s.length ∧ s.length ≤ 1099511627776);
 let n3 : Int := (↑(N s a.toNat) : Int);
 let n4 : Int := (↑(s.getD a.toNat 0).toNat : Int);
 let n5 : Int := IntKind.i64.wrap (a + 1);
 let m6 : Nat := n5.toNat;
 let n7 : Int := (M s a.toNat).fst;
 let n8 : Int := (↑(M s a.toNat).snd : Int);
 let c9 : Bool := c0 && decide (a ≤ n5) && decide (n5 ≤ n1);
 let c10 : Bool := decide (0 ≤ n5 ∧ m6 ≤ s.length ∧ s.length ≤ 1099511627776);
 let n11 : Int := (↑(N s m6) : Int);
 let m12 : Nat := n11.toNat;
 let n13 : Int := (M s m12).fst;
 let n14 : Int := (↑(M s m12).snd : Int);
 let n15 : Int := (M s m6).fst;
 let n16 : Int := (↑(M s m6).snd : Int);
 let n17 : Int := (↑(R s m6) : Int);
 let c18 : Bool := c0 && decide (a ≤ n17) && decide (n17 ≤ n1);
 let l19 : List UInt8 := List.drop a.toNat (List.take n17.toNat s);
 let n20 : Int := (numM l19).snd;
 let n21 : Int := IntKind.i64.wrap (a + 2);
  bif c0 && decide (a < n1) then
  bif c0 then
  bif bgB s a.toNat then
  bif c2 then
  bif decide (IntKind.i64.wrap (n3 - a) > 32) then
  k
  (Out.ret
  (AVal.tuple
  [AVal.agg [AVal.int IntKind.i64 1, AVal.str [], AVal.int IntKind.i64 0], AVal.int IntKind.i64 0,
  AVal.int IntKind.i64 5, AVal.int IntKind.i64 a])
  [])
  else
  bif c0 && decide (a ≤ n3) && decide (n3 ≤ n1) then
  k
  (Out.ret
  (AVal.tuple
  [AVal.agg
  [AVal.int IntKind.i64 1, AVal.str (List.drop a.toNat (List.take n3.toNat s)),
  AVal.int IntKind.i64 0],
  AVal.int IntKind.i64 n3, AVal.int IntKind.i64 0, AVal.int IntKind.i64 0])
  [])
  else none
  else none
  else
  bif n4 == 46 then
  bif decide (0 ≤ n5) then
  bif bgB s m6 then
  bif c2 then
  bif n7 != 0 then
  k
  (Out.ret
  (AVal.tuple
  [AVal.agg [AVal.int IntKind.i64 2, AVal.str [], AVal.int IntKind.i64 0], AVal.int IntKind.i64 0,
  AVal.int IntKind.i64 n7, AVal.int IntKind.i64 a])
  [])
  else
  bif c0 && decide (a ≤ n8) && decide (n8 ≤ n1) then
  k
  (Out.ret
  (AVal.tuple
  [AVal.agg
  [AVal.int IntKind.i64 2, AVal.str (List.drop a.toNat (List.take n8.toNat s)),
  AVal.int IntKind.i64 0],
  AVal.int IntKind.i64 n8, AVal.int IntKind.i64 0, AVal.int IntKind.i64 0])
  [])
  else none
  else none
  else
  bif c9 then
  k
  (Out.ret
  (AVal.tuple
  [AVal.agg
  [AVal.int IntKind.i64 2, AVal.str (List.drop a.toNat (List.take m6 s)), AVal.int IntKind.i64 0],
  AVal.int IntKind.i64 n5, AVal.int IntKind.i64 0, AVal.int IntKind.i64 0])
  [])
  else none
  else none
  else
  bif n4 == 36 then
  bif c10 then
  bif decide (n11 > 0) then
  bif decide (IntKind.i64.wrap (IntKind.i64.wrap (n11 - a) - 1) > 32) then
  k
  (Out.ret
  (AVal.tuple
  [AVal.agg [AVal.int IntKind.i64 3, AVal.str [], AVal.int IntKind.i64 0], AVal.int IntKind.i64 0,
  AVal.int IntKind.i64 5, AVal.int IntKind.i64 a])
  [])
  else
  bif decide (0 ≤ n11 ∧ m12 ≤ s.length ∧ s.length ≤ 1099511627776) then
  bif n13 != 0 then
  k
  (Out.ret
  (AVal.tuple
  [AVal.agg [AVal.int IntKind.i64 3, AVal.str [], AVal.int IntKind.i64 0],
  AVal.int IntKind.i64 0, AVal.int IntKind.i64 n13, AVal.int IntKind.i64 a])
  [])
  else
  bif c0 && decide (a ≤ n14) && decide (n14 ≤ n1) then
  k
  (Out.ret
  (AVal.tuple
  [AVal.agg
  [AVal.int IntKind.i64 3, AVal.str (List.drop a.toNat (List.take n14.toNat s)),
  AVal.int IntKind.i64 0],
  AVal.int IntKind.i64 n14, AVal.int IntKind.i64 0, AVal.int IntKind.i64 0])
  [])
  else none
  else none
  else
  bif c10 then
  bif n15 != 0 then
  k
  (Out.ret
  (AVal.tuple
  [AVal.agg [AVal.int IntKind.i64 3, AVal.str [], AVal.int IntKind.i64 0], AVal.int IntKind.i64 0,
  AVal.int IntKind.i64 n15, AVal.int IntKind.i64 a])
  [])
  else
  bif c0 && decide (a ≤ n16) && decide (n16 ≤ n1) then
  k
  (Out.ret
  (AVal.tuple
  [AVal.agg
  [AVal.int IntKind.i64 3, AVal.str (List.drop a.toNat (List.take n16.toNat s)),
  AVal.int IntKind.i64 0],
  AVal.int IntKind.i64 n16, AVal.int IntKind.i64 0, AVal.int IntKind.i64 0])
  [])
  else none
  else none
  else none
  else
  bif bif n4 == 45 then true else rDgt n4 then
  bif
  tst
  ((m6 ≤ s.length ∧ s.length ≤ 1099511627776) ∧
  SubTL
  [AVal.str s, AVal.int IntKind.i64 a, AVal.ptr (Oid.tmp 4) 0, AVal.int IntKind.i64 n5,
  AVal.int IntKind.i64 0, AVal.ptr (Oid.tmp 11) 0]
  (rgV s a m6 0) ∧
  [[AVal.int IntKind.i64 0, AVal.str [], AVal.int IntKind.i64 0],
  [AVal.int IntKind.i64 4, AVal.str [], AVal.int IntKind.i64 0]] =
  [[AVal.int IntKind.i64 0, AVal.str [], AVal.int IntKind.i64 0],
  [AVal.int IntKind.i64 4, AVal.str [], AVal.int IntKind.i64 0]] ∧
  ([] : Heap) = []) then
  bif c18 then
  bif decide (l19.length ≤ 1099511627776) then
  bif n20 == 4 then
  k
  (Out.ret
  (AVal.tuple
  [AVal.agg [AVal.int IntKind.i64 4, AVal.str [], AVal.int IntKind.i64 0],
  AVal.int IntKind.i64 0, AVal.int IntKind.i64 4, AVal.int IntKind.i64 a])
  [])
  else
  bif n20 != 0 then
  k
  (Out.ret
  (AVal.tuple
  [AVal.agg [AVal.int IntKind.i64 4, AVal.str [], AVal.int IntKind.i64 0],
  AVal.int IntKind.i64 0, AVal.int IntKind.i64 33, AVal.int IntKind.i64 a])
  [])
  else
  bif c18 then
  k
  (Out.ret
  (AVal.tuple
  [AVal.agg [AVal.int IntKind.i64 4, AVal.str l19, AVal.int IntKind.i64 0],
  AVal.int IntKind.i64 n17, AVal.int IntKind.i64 0, AVal.int IntKind.i64 0])
  [])
  else none
  else none
  else none
  else none
  else
  bif n4 == 34 then
  bif decide (0 ≤ a ∧ a.toNat < s.length ∧ s.length ≤ 1099511627776) then
  k
  (Out.ret
  (AVal.tuple
  [AVal.agg [AVal.int IntKind.i64 5, AVal.str (Q s a.toNat).text, AVal.int IntKind.i64 0],
  AVal.int IntKind.i64 (↑(Q s a.toNat).to : Int), AVal.int IntKind.i64 (Q s a.toNat).e,
  AVal.int IntKind.i64 (↑(Q s a.toNat).off : Int)])
  [])
  else none
  else
  bif c0 && decide (a ≤ n1) && decide (n1 ≤ n1) then
  bif [58, 61].isPrefixOf (List.drop a.toNat (List.take n1.toNat s)) then
  bif c0 && decide (a ≤ n21) && decide (n21 ≤ n1) then
  k
  (Out.ret
  (AVal.tuple
  [AVal.agg
  [AVal.int IntKind.i64 6, AVal.str (List.drop a.toNat (List.take n21.toNat s)),
  AVal.int IntKind.i64 0],
  AVal.int IntKind.i64 n21, AVal.int IntKind.i64 0, AVal.int IntKind.i64 0])
  [])
  else none
  else
  bif n4 != 124 then
  k
  (Out.ret
  (AVal.tuple
  [AVal.agg [AVal.int IntKind.i64 6, AVal.str [], AVal.int IntKind.i64 0],
  AVal.int IntKind.i64 0, AVal.int IntKind.i64 33, AVal.int IntKind.i64 a])
  [])
  else
  bif c9 then
  k
  (Out.ret
  (AVal.tuple
  [AVal.agg
  [AVal.int IntKind.i64 6, AVal.str (List.drop a.toNat (List.take m6 s)),
  AVal.int IntKind.i64 0],
  AVal.int IntKind.i64 n5, AVal.int IntKind.i64 0, AVal.int IntKind.i64 0])
  [])
  else none
  else none
  else none
  else none) := by kernel_rfl
theorem rg_round (s : List UInt8) (hs : s.length ≤ 1099511627776) (N : List UInt8 → Nat → Nat) (M : List UInt8 → Nat → Int × Nat) (Q : List UInt8 → Nat → StQ) (R : List UInt8 → Nat → Nat) (a e : Int) (b4 b11 : List AVal) (H : Heap) (i : Nat) (D : List (FuncId × List AVal)) (k : Kont) (hi : i ≤ s.length) :
    lturn Tryd.prog (layY beginTold N M Q) (rgFH R) 76 23 [0,1,4,9,10,11] [4,11] [0,1,4,9,10,11] [4,11] (stL 145 [0,1,4,9,10,11] (rgV s a i e) [4,11] [b4, b11] H D) k =
    bif decide (i < s.length) && dig (s.getD i 0) then k .normal (stL 145 [0,1,4,9,10,11] (rgV s a (i + 1) e) [4,11] [b4, b11] H D) else k (.exit 1) (stL 145 [0,1,4,9,10,11] (rgV s a i e) [4,11] [b4, b11] H D) := by
  refine (rg_step N M Q R s a i e b4 b11 H D k).trans ?_
  by_cases h : i < s.length
  · simp only [dT h, dT (show (i : Int) < s.length by omega), dT (show (0 : Int) ≤ i by omega), rDgt_eq, wrap_add1 (show i < 4611686018427387904 by omega), Int.toNat_natCast, Bool.and_self, Bool.true_or, cond_true, Bool.true_and, bif_or, bif_and]
  · simp only [dF h, dF (show ¬ (i : Int) < s.length by omega), Bool.and_false, Bool.not_false, Bool.or_true, cond_true, cond_false, Bool.false_and, bif_and]
theorem rgSp_ok {N : List UInt8 → Nat → Nat} {M : List UInt8 → Nat → Int × Nat} {Q : List UInt8 → Nat → StQ} : SpOK (lturn Tryd.prog (layY beginTold N M Q) (rgFH rgN) 76 23 [0,1,4,9,10,11] [4,11] [0,1,4,9,10,11] [4,11]) 145 [0,1,4,9,10,11] [4,11] [0,1,4,9,10,11] [4,11] (rgSp rgN) := mkL_ok fun x h => ⟨_, _, _, _, fun k => rfl,
  scan_runsB (vs := fun i => rgV x.s x.a i x.e) (ws := fun i => rgV x.s x.a i x.e) (fun i D k hi => rg_round x.s h.2 N M Q rgN x.a x.e x.b4 x.b11 x.H i D k hi) _ x.i (Nat.le_refl _) h.1⟩
theorem layY2_ok : (layY2 nameN rdM strQ1 rgN).OK Tryd.prog := layY_ok.loop1 (id := 23) (by kernel_rfl) (by kernel_rfl) (by kernel_rfl) rgSp_ok
def woV (r : OneR) (a : Nat) : AVal := bif r.e == 0 then .tuple [.agg [.int .i64 r.kind, .str r.text, .int .i64 0], .int .i64 ((a + r.len : Nat) : Int), .int .i64 0, .int .i64 0]
  else .tuple [.agg [.int .i64 r.kind, .str [], .int .i64 0], .int .i64 0, .int .i64 r.e, .int .i64 ((a + r.off : Nat) : Int)]
theorem strQ_vals (b : Nat) : ∀ (n : Nat) (t acc : List UInt8) (i : Nat), t.length ≤ n → ((strQ b t acc i).e = 0 → (strQ b t acc i).off = 0) ∧ ((strQ b t acc i).e ≠ 0 → (strQ b t acc i).text = [] ∧ (strQ b t acc i).to = 0)
  | n, [], acc, i, _ => ⟨(fun h => by cases h), fun _ => ⟨rfl, rfl⟩⟩
  | n, [c], acc, i, _ => by
    rw [strQ]
    cases c == 34 with
    | true =>
      cases decide (acc.length ≤ 4096) with
      | true => exact ⟨fun _ => rfl, fun h => absurd rfl h⟩
      | false => exact ⟨(fun h => by cases h), fun _ => ⟨rfl, rfl⟩⟩
    | false =>
      cases c == 92 || c == 10 with
      | true => exact ⟨(fun h => by cases h), fun _ => ⟨rfl, rfl⟩⟩
      | false => exact ⟨(fun h => by cases h), fun _ => ⟨rfl, rfl⟩⟩
  | 0, c :: d :: u, acc, i, h => by simp at h
  | n + 1, c :: d :: u, acc, i, h => by
    simp only [List.length_cons] at h
    rw [strQ]
    cases c == 34 with
    | true =>
      cases decide (acc.length ≤ 4096) with
      | true => exact ⟨fun _ => rfl, fun h => absurd rfl h⟩
      | false => exact ⟨(fun h => by cases h), fun _ => ⟨rfl, rfl⟩⟩
    | false =>
      cases c == 92 && decide (escI d ≥ 0) with
      | true => exact strQ_vals b n u _ _ (by omega)
      | false =>
        cases c == 92 || c == 10 with
        | true => exact ⟨(fun h => by cases h), fun _ => ⟨rfl, rfl⟩⟩
        | false => exact strQ_vals b n (d :: u) _ _ (by simp only [List.length_cons]; omega)
end Go.Mu
set_option linter.unusedVariables false
set_option linter.unusedSimpArgs false
set_option maxRecDepth 100000
namespace Go.Mu
open Go Go.Proofs
theorem cut_at (s : List UInt8) (a n : Nat) : (s.take (a + n)).drop a = (s.drop a).take n := by
  rw [List.drop_take]; congr 1; omega
theorem hd1_at {s : List UInt8} {a : Nat} (h : a < s.length) : hd1 (s.drop a) = bgB s (a + 1) := by
  unfold hd1 bgB
  have e : (s.drop a).getD 1 0 = s.getD (a + 1) 0 := by rw [List.getD_drop]
  rw [e, List.length_drop, show decide (1 < s.length - a) = decide (a + 1 < s.length) from decide_eq_decide.2 (by omega)]
theorem wrap_diff {a n : Nat} (h : n ≤ 1099511627776) : IntKind.i64.wrap (((a + n : Nat) : Int) - (a : Int)) = (n : Int) := by
  rw [wrapI (by omega) (by omega)]; omega
theorem cut_ret {s : List UInt8} {a : Nat} {kd e : Int} {n : Nat} (hs : s.length ≤ 1099511627776) (hn : a + n ≤ s.length) (k : Out → Ans) :
    (bif e != 0 then k (.ret (.tuple [.agg [.int .i64 kd, .str [], .int .i64 0], .int .i64 0, .int .i64 e, .int .i64 (a : Nat)]) [])
     else bif decide ((0 : Int) ≤ (a : Int)) && decide ((a : Int) ≤ ((a + n : Nat) : Int)) && decide (((a + n : Nat) : Int) ≤ s.length) then k (.ret (.tuple [.agg [.int .i64 kd, .str ((s.take (a + n)).drop a), .int .i64 0], .int .i64 ((a + n : Nat) : Int), .int .i64 0, .int .i64 0]) []) else none)
    = k (.ret (woV (cutR kd (s.drop a) (e, n)) a) []) := by
  unfold woV cutR
  cases h : e == 0 with
  | true =>
    have h2 : (e != 0) = false := by rw [bne, h]; rfl
    simp only [h2, cond_false, h, cond_true, dT (show (0 : Int) ≤ (a : Int) by omega), dT (show (a : Int) ≤ ((a + n : Nat) : Int) by omega), dT (show ((a + n : Nat) : Int) ≤ (s.length : Int) by omega), Bool.and_self, cut_at]
  | false =>
    have h2 : (e != 0) = true := by rw [bne, h]; rfl
    simp only [h2, cond_true, h, cond_false, Nat.add_zero]
theorem wo_call (s : List UInt8) (a : Nat) (h : a < s.length) (hs : s.length ≤ 1099511627776) (k : Out → Ans) : iFun Tryd.prog ((layY2 nameN rdM strQ1 rgN).hd Tryd.prog) (layY2 nameN rdM strQ1 rgN).fhs 0 76 [.str s, .int .i64 (a : Nat)] [] k = k (.ret (woV (oneM (s.drop a)) a) []) := by
  have key := wo_fun nameN rdM strQ1 rgN s a k
  have e1 : IntKind.i64.wrap ((a : Int) + 1) = ((a + 1 : Nat) : Int) := wrap_add1 (by omega)
  have e2 : IntKind.i64.wrap ((a : Int) + 2) = ((a + 2 : Nat) : Int) := by rw [wrapI (by omega) (by omega)]; omega
  have hb : bgB s a = (ltr (s.getD a 0) || s.getD a 0 == 95) := by unfold bgB; rw [dT h, Bool.true_and]
  have e0 : (s.drop a).getD 0 0 = s.getD a 0 := by rw [List.getD_drop]; rfl
  have hr0 := runN_le (s.drop a)
  have hr1 := runN_le (s.drop (a + 1))
  rw [List.length_drop] at hr0 hr1
  have ed : (s.drop a).drop 1 = s.drop (a + 1) := by rw [List.drop_drop]
  have hlt : 0 < (s.drop a).length := by rw [List.length_drop]; omega
  have hlen : (s.drop a).length = s.length - a := List.length_drop
  refine key.trans ?_
  simp only [e1, e2, Int.toNat_natCast, dT (show (0 : Int) ≤ (a : Int) by omega), dT (show (a : Int) < (s.length : Int) by omega), Bool.and_self, cond_true, dT (show (0 : Int) ≤ (a : Int) ∧ a ≤ s.length ∧ s.length ≤ 1099511627776 from ⟨by omega, by omega, hs⟩)]
  unfold oneM
  rw [e0, ← hb]
  cases hbb : bgB s a with
  | true =>
    simp only [cond_true]
    have hn : nameN s a = a + runN (s.drop a) := by rw [name_at, hbb]; rfl
    simp only [hn, wrap_diff (a := a) (n := runN (s.drop a)) (by omega)]
    have hid : idE (s.drop a) = bif decide (runN (s.drop a) ≤ 32) then 0 else 5 := by rw [idE_at h, hbb]; rfl
    have c := cut_ret (s := s) (a := a) (kd := 1) (e := idE (s.drop a)) (n := runN (s.drop a)) hs (by omega) k
    rw [← c]
    rw [hid]
    by_cases h3 : runN (s.drop a) ≤ 32
    · simp only [dT h3, dF (show ¬ ((runN (s.drop a) : Nat) : Int) > 32 by omega), cond_true, cond_false, dT (show (0 : Int) ≤ (a : Int) by omega), Bool.true_and]
      rfl
    · simp only [dF h3, dT (show ((runN (s.drop a) : Nat) : Int) > 32 by omega), cond_true, cond_false]
      rfl
  | false =>
    simp only [cond_false, eqc (show 46 < 256 by decide), eqc (show 36 < 256 by decide), eqc (show 45 < 256 by decide), eqc (show 34 < 256 by decide), dT (show (0 : Int) ≤ ((a + 1 : Nat) : Int) by omega), cond_true, rDgt_eq, bif_or]
    cases h46 : s.getD a 0 == 46 with
    | true =>
      simp only [cond_true]
      unfold dotM
      rw [hd1_at h]
      cases hb1 : bgB s (a + 1) with
      | true =>
        simp only [cond_true]
        rw [dotsM_fuel (s.drop a).length s.length _ (Nat.le_refl _) (by omega)]
        have hd := dotsM_le s.length (s.drop a)
        have c := cut_ret (s := s) (a := a) (kd := 2) (e := (dotsM s.length (s.drop a)).1) (n := (dotsM s.length (s.drop a)).2) hs (by omega) k
        simp only [dT (show (0 : Int) ≤ (a : Int) by omega)] at c
        exact c
      | false =>
        simp only [cond_false]
        exact cut_ret (e := 0) (n := 1) hs (by omega) k
    | false =>
      simp only [cond_false]
      cases h36 : s.getD a 0 == 36 with
      | true =>
        simp only [cond_true]
        simp only [dT (show 0 ≤ ((a + 1 : Nat) : Int) ∧ a + 1 ≤ s.length ∧ s.length ≤ 1099511627776 from ⟨by omega, by omega, hs⟩), cond_true]
        unfold dollarM
        rw [hd1_at h, ed]
        cases hb1 : bgB s (a + 1) with
        | true =>
          have h1 : a + 1 < s.length := by
            unfold bgB at hb1
            rw [Bool.and_eq_true, decide_eq_true_eq] at hb1
            exact hb1.1
          have hn : nameN s (a + 1) = a + 1 + runN (s.drop (a + 1)) := by rw [name_at, hb1]; rfl
          have hid : idE (s.drop (a + 1)) = bif decide (runN (s.drop (a + 1)) ≤ 32) then 0 else 5 := by rw [idE_at h1, hb1]; rfl
          simp only [hn, dT (show ((a + 1 + runN (s.drop (a + 1)) : Nat) : Int) > 0 by omega), cond_true, Int.toNat_natCast]
          have ew : IntKind.i64.wrap (IntKind.i64.wrap (((a + 1 + runN (s.drop (a + 1)) : Nat) : Int) - (a : Int)) - 1) = ((runN (s.drop (a + 1)) : Nat) : Int) := by
            rw [show IntKind.i64.wrap (((a + 1 + runN (s.drop (a + 1)) : Nat) : Int) - (a : Int)) = ((1 + runN (s.drop (a + 1)) : Nat) : Int) by rw [wrapI (by omega) (by omega)]; omega, wrapI (by omega) (by omega)]; omega
          simp only [ew, hid]
          by_cases h3 : runN (s.drop (a + 1)) ≤ 32
          · simp only [dT h3, dF (show ¬ ((runN (s.drop (a + 1)) : Nat) : Int) > 32 by omega), cond_true, cond_false, dT (show 0 ≤ ((a + 1 + runN (s.drop (a + 1)) : Nat) : Int) ∧ a + 1 + runN (s.drop (a + 1)) ≤ s.length ∧ s.length ≤ 1099511627776 from ⟨by omega, by omega, hs⟩)]
            have edd : (s.drop a).drop (1 + runN (s.drop (a + 1))) = s.drop (a + 1 + runN (s.drop (a + 1))) := by rw [List.drop_drop]; congr 1; omega
            have hl2 : (s.drop (a + 1 + runN (s.drop (a + 1)))).length = s.length - (a + 1 + runN (s.drop (a + 1))) := List.length_drop
            rw [edd, dotsM_fuel (s.drop a).length s.length _ (by omega) (by omega)]
            have hd := dotsM_le s.length (s.drop (a + 1 + runN (s.drop (a + 1))))
            have c := cut_ret (s := s) (a := a) (kd := 3) (e := (dotsM s.length (s.drop (a + 1 + runN (s.drop (a + 1))))).1) (n := 1 + runN (s.drop (a + 1)) + (dotsM s.length (s.drop (a + 1 + runN (s.drop (a + 1))))).2) hs (by omega) k
            rw [show a + (1 + runN (s.drop (a + 1)) + (dotsM s.length (s.drop (a + 1 + runN (s.drop (a + 1))))).2) = a + 1 + runN (s.drop (a + 1)) + (dotsM s.length (s.drop (a + 1 + runN (s.drop (a + 1))))).2 by omega] at c
            simp only [dT (show (0 : Int) ≤ (a : Int) by omega)] at c
            exact c
          · simp only [dF h3, dT (show ((runN (s.drop (a + 1)) : Nat) : Int) > 32 by omega), cond_true, cond_false]
            rfl
        | false =>
          have hn : nameN s (a + 1) = 0 := by rw [name_at, hb1]; rfl
          simp only [hn, dF (show ¬ ((0 : Nat) : Int) > 0 by omega), cond_false]
          have hl2 : (s.drop (a + 1)).length = s.length - (a + 1) := List.length_drop
          rw [dotsM_fuel (s.drop a).length s.length _ (by omega) (by omega)]
          have hd := dotsM_le s.length (s.drop (a + 1))
          have c := cut_ret (s := s) (a := a) (kd := 3) (e := (dotsM s.length (s.drop (a + 1))).1) (n := 1 + (dotsM s.length (s.drop (a + 1))).2) hs (by omega) k
          rw [show a + (1 + (dotsM s.length (s.drop (a + 1))).2) = a + 1 + (dotsM s.length (s.drop (a + 1))).2 by omega] at c
          simp only [dT (show (0 : Int) ≤ (a : Int) by omega)] at c
          exact c
      | false =>
        simp only [cond_false]
        cases hdg : s.getD a 0 == 45 || dig (s.getD a 0) with
        | true =>
          simp only [cond_true]
          have hg : rgN s (a + 1) = a + (1 + dgN (s.drop (a + 1))) := by
            show a + 1 + dgN (s.drop (a + 1)) = _
            omega
          have hgl := dgN_le (s.drop (a + 1))
          have hl2 : (s.drop (a + 1)).length = s.length - (a + 1) := List.length_drop
          refine (congrArg (fun c => cond c _ none) (tst_true ⟨⟨by omega, hs⟩, .refl _, by trivial, by trivial⟩)).trans ?_
          have hl3 : ((s.drop a).take (1 + dgN (s.drop (a + 1)))).length ≤ 1099511627776 := by rw [List.length_take]; omega
          simp only [hg, cut_at, dT (show (a : Int) ≤ ((a + (1 + dgN (s.drop (a + 1))) : Nat) : Int) by omega), dT (show ((a + (1 + dgN (s.drop (a + 1))) : Nat) : Int) ≤ (s.length : Int) by omega), Bool.and_self, cond_true, dT hl3]
          unfold digM
          rw [ed]
          generalize (numM ((s.drop a).take (1 + dgN (s.drop (a + 1))))).2 = v
          cases h4 : v == 4 with
          | true => rfl
          | false =>
            cases h0 : v == 0 with
            | true =>
              have h02 : (v != 0) = false := by rw [bne, h0]; rfl
              simp only [h02, cond_false]
              rfl
            | false =>
              have h02 : (v != 0) = true := by rw [bne, h0]; rfl
              simp only [h02, cond_false, cond_true]
              rfl
        | false =>
          simp only [cond_false]
          cases h34 : s.getD a 0 == 34 with
          | true =>
            simp only [cond_true]
            simp only [dT (show (0 : Int) ≤ (a : Int) ∧ a < s.length ∧ s.length ≤ 1099511627776 from ⟨by omega, h, hs⟩), cond_true]
            rw [ed]
            obtain ⟨q1, q2, q3, q4⟩ := strQ_shift a _ (s.drop (a + 1)) [] 1 (Nat.le_refl _)
            obtain ⟨v1, v2⟩ := strQ_vals a _ (s.drop (a + 1)) [] (a + 1) (Nat.le_refl _)
            unfold strQ1 woV
            simp only []
            cases he : (strQ 0 (s.drop (a + 1)) [] 1).e == 0 with
            | true =>
              rw [beq_iff_eq] at he
              rw [q1, q2, (q4 he).1, v1 (q1.trans he), he]
              rfl
            | false =>
              have he' : (strQ 0 (s.drop (a + 1)) [] 1).e ≠ 0 := by simpa using he
              rw [q1, (v2 (by rw [q1]; exact he')).1, (v2 (by rw [q1]; exact he')).2, q3 he']
              rfl
          | false =>
            simp only [cond_false]
            have etk : List.drop a (List.take s.length s) = s.drop a := by rw [List.take_length]
            simp only [dT (show (a : Int) ≤ (s.length : Int) by omega), dT (show (s.length : Int) ≤ (s.length : Int) by omega), Bool.and_self, cond_true, etk]
            cases hp : [58, 61].isPrefixOf (s.drop a) with
            | true =>
              simp only [cond_true]
              have h2 := pre_two hp
              have c := cut_ret (s := s) (a := a) (kd := 6) (e := 0) (n := 2) hs (by omega) k
              simp only [dT (show (0 : Int) ≤ (a : Int) by omega)] at c
              exact c
            | false =>
              simp only [cond_false]
              have hne : (((s.getD a 0).toNat : Int) != 124) = !(s.getD a 0 == 124) := by rw [bne, eqc (show 124 < 256 by decide)]
              rw [hne]
              have c := cut_ret (s := s) (a := a) (kd := 6) (e := bif s.getD a 0 == 124 then 0 else 33) (n := 1) hs (by omega) k
              rw [← c]
              cases s.getD a 0 == 124 with
              | true => simp only [Bool.not_true, cond_false, cond_true, dT (show (0 : Int) ≤ (a : Int) by omega)]; rfl
              | false => rfl
end Go.Mu
set_option linter.unusedVariables false
set_option linter.unusedSimpArgs false
set_option maxRecDepth 100000
namespace Go.Mu
open Go Go.Proofs
theorem wdsM_fuel : ∀ (m n : Nat) (t : List UInt8) (p : Nat), t.length ≤ m → t.length ≤ n → wdsM m t p = wdsM n t p
  | 0, 0, _, _, _, _ => rfl
  | 0, n + 1, t, p, h, _ => by
    have : t = [] := List.eq_nil_of_length_eq_zero (by omega)
    subst this; rfl
  | m + 1, 0, t, p, _, h => by
    have : t = [] := List.eq_nil_of_length_eq_zero (by omega)
    subst this; rfl
  | m + 1, n + 1, t, p, h1, h2 => by
    by_cases h0 : t = []
    · subst h0; rfl
    have hl : 0 < t.length := List.length_pos_iff.2 h0
    have ed : (t.drop 1).length = t.length - 1 := List.length_drop
    rw [wdsM, wdsM]
    cases hb : blk (t.getD 0 0) with
    | true =>
      simp only [cond_true]
      rw [wdsM_fuel m n (t.drop 1) (p + 1) (by omega) (by omega)]
    | false =>
      simp only [cond_false]
      cases he : (oneM t).e == 0 with
      | false => rfl
      | true =>
        obtain ⟨l1, l2⟩ := one_len h0 (by simpa using he)
        have ed2 : (t.drop (oneM t).len).length = t.length - (oneM t).len := List.length_drop
        simp only [cond_true]
        rw [wdsM_fuel m n (t.drop (oneM t).len) (p + (oneM t).len) (by omega) (by omega)]
theorem skN_of {s : List UInt8} {i : Nat} (h : i < s.length) : skN s i = bif blk (s.getD i 0) then skN s (i + 1) else i := by
  unfold skN
  rw [drop_cons_of s i 0 h, List.takeWhile_cons]
  cases blk (s.getD i 0) with
  | true => simp only [cond_true, List.length_cons, if_true]; omega
  | false => rfl
theorem skN_end {s : List UInt8} {i : Nat} (h : s.length ≤ i) : skN s i = i := by
  unfold skN
  rw [List.drop_eq_nil_of_le h]
  rfl
theorem skN_le {s : List UInt8} : ∀ (m i : Nat), s.length - i ≤ m → i ≤ s.length → skN s i ≤ s.length
  | 0, i, h, h2 => by rw [skN_end (by omega)]; exact h2
  | m + 1, i, h, h2 => by
    by_cases hl : i < s.length
    · rw [skN_of hl]
      cases blk (s.getD i 0) with
      | true => exact skN_le m (i + 1) (by omega) (by omega)
      | false => exact h2
    · rw [skN_end (by omega)]; exact h2
theorem skN_stop {s : List UInt8} : ∀ (m i : Nat), s.length - i ≤ m → skN s i < s.length → blk (s.getD (skN s i) 0) = false
  | 0, i, h, h2 => by rw [skN_end (by omega)] at h2; omega
  | m + 1, i, h, h2 => by
    by_cases hl : i < s.length
    · rw [skN_of hl] at h2 ⊢
      cases hb : blk (s.getD i 0) with
      | true =>
        rw [hb] at h2
        exact skN_stop m (i + 1) (by omega) h2
      | false => exact hb
    · rw [skN_end (by omega)] at h2; omega
theorem wdsM_skip (s : List UInt8) : ∀ (m i : Nat), s.length - i ≤ m → i ≤ s.length → wdsM m (s.drop i) i = wdsM m (s.drop (skN s i)) (skN s i)
  | 0, i, h, h2 => by rw [skN_end (by omega)]
  | m + 1, i, h, h2 => by
    by_cases hl : i < s.length
    · rw [skN_of hl]
      cases hb : blk (s.getD i 0) with
      | false => rfl
      | true =>
        simp only [cond_true]
        have ih := wdsM_skip s m (i + 1) (by omega) (by omega)
        have hle := skN_le (s := s) m (i + 1) (by omega) (by omega)
        have hge : i + 1 ≤ skN s (i + 1) := by unfold skN; omega
        have e1 : (s.drop (skN s (i + 1))).length = s.length - skN s (i + 1) := List.length_drop
        rw [wdsM_fuel (m + 1) m (s.drop (skN s (i + 1))) _ (by omega) (by omega), ← ih]
        rw [wdsM]
        have e0 : (s.drop i).getD 0 0 = s.getD i 0 := by rw [List.getD_drop]; rfl
        have hne : (s.drop i == []) = false := by rw [drop_cons_of s i 0 hl]; rfl
        rw [hne, e0, hb]
        simp only [cond_true, cond_false]
        rw [List.drop_drop]
    · rw [skN_end (by omega)]
end Go.Mu
set_option linter.unusedVariables false
set_option linter.unusedSimpArgs false
set_option maxRecDepth 100000
namespace Go.Mu
open Go Go.Proofs
abbrev OneF := List UInt8 → Nat → OneR
def oneA : OneF := fun s a => oneM (s.drop a)
def oneFTold (W : OneF) : FSp := mkFS [.s, .i .i64] (fun xs => decide (0 ≤ aI xs 1 ∧ (aI xs 1).toNat < (aS xs 0).length ∧ (aS xs 0).length ≤ 1099511627776))
  (fun xs k => cond ((W (aS xs 0) (aI xs 1).toNat).e == 0) (k (.ret (.tuple [.agg [.int .i64 (W (aS xs 0) (aI xs 1).toNat).kind, .str (W (aS xs 0) (aI xs 1).toNat).text, .int .i64 0], .int .i64 (((aI xs 1).toNat + (W (aS xs 0) (aI xs 1).toNat).len : Nat) : Int), .int .i64 0, .int .i64 0]) []))
    (k (.ret (.tuple [.agg [.int .i64 (W (aS xs 0) (aI xs 1).toNat).kind, .str [], .int .i64 0], .int .i64 0, .int .i64 (W (aS xs 0) (aI xs 1).toNat).e, .int .i64 (((aI xs 1).toNat + (W (aS xs 0) (aI xs 1).toNat).off : Nat) : Int)]) [])))
theorem oneFTold_ok : ∀ xs H k out, oneFTold oneA xs H k = some out → ∃ o, CallOK Tryd.prog 76 xs H o ∧ k o = some out := mkFS_ok fun ys xs e hx => by
  obtain ⟨s, n, rfl⟩ : ∃ s n, xs = [.str s, .int .i64 n] := ⟨_, _, e⟩
  replace hx : 0 ≤ n ∧ n.toNat < s.length ∧ s.length ≤ 1099511627776 := of_decide_eq_true hx
  obtain ⟨a, rfl⟩ : ∃ a : Nat, n = a := ⟨n.toNat, by omega⟩
  have key := fun k => wo_call s a hx.2.1 hx.2.2 k
  unfold woV at key
  show ∃ o, (∀ k : Out → Ans, cond ((oneM (s.drop a)).e == 0) _ _ = k o) ∧ _
  cases hb : (oneM (s.drop a)).e == 0 with
  | true =>
    simp only [hb, cond_true] at key
    exact ⟨_, fun k => rfl, layY2_ok.callF (G := []) rfl key⟩
  | false =>
    simp only [hb, cond_false] at key
    exact ⟨_, fun k => rfl, layY2_ok.callF (G := []) rfl key⟩
noncomputable def layZ1 (K : List UInt8 → Nat → Nat) (W : OneF) : Lay := (Lay.nil.addF 75 (posTold K)).addF 76 (oneFTold W)
theorem layZ1_ok : (layZ1 skN oneA).OK Tryd.prog := (Lay.nil_ok.addF skTold_ok).addF oneFTold_ok
abbrev WsF := List UInt8 → Nat → List WdD × Option (Nat × Nat × Int)
def wdsR : WsF := fun s i => wdsM s.length (s.drop i) i
def rwOk (s : List UInt8) (base : Int) (i : Nat) : Prop := i ≤ s.length ∧ s.length ≤ 1073741824 ∧ 0 ≤ base ∧ base ≤ 1099511627776 ∧ (i < s.length → blk (s.getD i 0) = false)
noncomputable def rwSp (X : WsF) : LSp := mkL (fun vs _ H => (aS vs 0, aI vs 1, (aI vs 3).toNat)) (fun x => rwOk x.1 x.2.1 x.2.2) (fun x => [.str x.1, .int .i64 x.2.1, nilList, .int .i64 (x.2.2 : Nat)]) (fun _ => []) (fun _ => [])
  (fun x k => cond (X x.1 x.2.2).2.isSome
    (cond (X x.1 x.2.2).1.isEmpty (k .ret [.int .i64 x.2.1, nilList, .int .i64 (x.2.1 + ((((X x.1 x.2.2).2.getD (0, 0, 0)).1 + ((X x.1 x.2.2).2.getD (0, 0, 0)).2.1 : Nat) : Int)), .int .i64 ((X x.1 x.2.2).2.getD (0, 0, 0)).2.2, nilList] [] [])
      (k .ret [.int .i64 x.2.1, nilList, .int .i64 (x.2.1 + ((((X x.1 x.2.2).2.getD (0, 0, 0)).1 + ((X x.1 x.2.2).2.getD (0, 0, 0)).2.1 : Nat) : Int)), .int .i64 ((X x.1 x.2.2).2.getD (0, 0, 0)).2.2, .own 0 0 (X x.1 x.2.2).1.length ((X x.1 x.2.2).1.length - 1) false] [] [.arr 3 ((X x.1 x.2.2).1.map (encWd x.2.1)) ((X x.1 x.2.2).1.length - 1)]))
    (cond (X x.1 x.2.2).1.isEmpty (k (.exit 0) [.int .i64 x.2.1, .undef, .undef, .undef, nilList] [] [])
      (k (.exit 0) [.int .i64 x.2.1, .undef, .undef, .undef, .own 0 0 (X x.1 x.2.2).1.length ((X x.1 x.2.2).1.length - 1) false] [] [.arr 3 ((X x.1 x.2.2).1.map (encWd x.2.1)) ((X x.1 x.2.2).1.length - 1)])))
noncomputable def rwFH (X : WsF) : FH := .of [(3, loopSpec 46 [0,1,7,8] [] [1,4,5,6,7] [] (rwSp X))]
noncomputable def layZ2 (K : List UInt8 → Nat → Nat) (W : OneF) (X : WsF) : Lay := (layZ1 K W).addL 34 (rwFH X)
theorem rw_s0 (X : WsF) (K : List UInt8 → Nat → Nat) (W : OneF) (s : List UInt8) (base i : Int) (D : List (FuncId × List AVal)) (k : Kont) : lturn Tryd.prog (layZ1 K W) (rwFH X) 34 3 [0,1,7,8] [] [1,4,5,6,7] [] (stL 46 [0,1,7,8] [.str s, .int .i64 base, nilList, .int .i64 i] [] [] [] D) k = (
 let n0 : Int := (W s i.toNat).e;
 let n1 : Int := (↑(i.toNat + (W s i.toNat).len) : Int);
 let m2 : Nat := n1.toNat;
  bif decide (i < (↑s.length : Int)) then
  bif decide (0 ≤ i ∧ i.toNat < s.length ∧ s.length ≤ 1099511627776) then
  bif n0 == 0 then
  bif decide (0 ≤ n1 ∧ m2 ≤ s.length ∧ s.length ≤ 1099511627776) then
  k AExit.normal
  (stL 46 [0, 1, 7, 8]
  [AVal.str s, AVal.int IntKind.i64 base, AVal.own 0 0 (0 + 1) 0 false,
  AVal.int IntKind.i64 (↑(K s m2) : Int)]
  [] []
  [Obj.arr 3
  [[AVal.int IntKind.i64 (W s i.toNat).kind, AVal.str (W s i.toNat).text,
  AVal.int IntKind.i64 (IntKind.i64.wrap (base + i))]]
  0]
  D)
  else none
  else
  bif n0 != 0 then
  k AExit.ret
  (stL 46 [1, 4, 5, 6, 7]
  [AVal.int IntKind.i64 base, AVal.list true 0 fun (x : Nat) => [],
  AVal.int IntKind.i64 (IntKind.i64.wrap (base + (↑(i.toNat + (W s i.toNat).off) : Int))),
  AVal.int IntKind.i64 n0, AVal.list true 0 fun (x : Nat) => []]
  [] [] [] D)
  else
  bif decide ((0 : Int) ≤ 0 ∧ Int.toNat 0 ≤ s.length ∧ s.length ≤ 1099511627776) then
  k AExit.normal
  (stL 46 [0, 1, 7, 8]
  [AVal.str s, AVal.int IntKind.i64 base, AVal.own 0 0 (0 + 1) 0 false,
  AVal.int IntKind.i64 (↑(K s (Int.toNat 0)) : Int)]
  [] []
  [Obj.arr 3
  [[AVal.int IntKind.i64 (W s i.toNat).kind, AVal.str [],
  AVal.int IntKind.i64 (IntKind.i64.wrap (base + i))]]
  0]
  D)
  else none
  else none
  else
  k (AExit.exit 0)
  (stL 46 [1, 4, 5, 6, 7]
        [AVal.int IntKind.i64 base, AVal.undef, AVal.undef, AVal.undef, AVal.list true 0 fun (x : Nat) => []] [] [] [] D)) := by kernel_rfl
theorem rw_s1 (X : WsF) (K : List UInt8 → Nat → Nat) (W : OneF) (s : List UInt8) (base i : Int) (q v : Nat) (rows : List (List AVal)) (D : List (FuncId × List AVal)) (k : Kont) : lturn Tryd.prog (layZ1 K W) (rwFH X) 34 3 [0,1,7,8] [] [1,4,5,6,7] [] (stL 46 [0,1,7,8] [.str s, .int .i64 base, .own 0 0 q v false, .int .i64 i] [] [] [.arr 3 rows v] D) k = (
 let n0 : Int := (W s i.toNat).e;
 let m1 : Nat := q + 1;
 let c2 : Bool := v == v && q == rows.length && decide ((2 * m1 + 1000) * 32 ≤ 281474976710656) && true;
 let n3 : Int := (↑(i.toNat + (W s i.toNat).len) : Int);
 let m4 : Nat := n3.toNat;
 let m5 : Nat := v + 1;
  bif decide (i < (↑s.length : Int)) then
  bif decide (0 ≤ i ∧ i.toNat < s.length ∧ s.length ≤ 1099511627776) then
  bif n0 == 0 then
  bif c2 then
  bif decide (0 ≤ n3 ∧ m4 ≤ s.length ∧ s.length ≤ 1099511627776) then
  k AExit.normal
  (stL 46 [0, 1, 7, 8]
  [AVal.str s, AVal.int IntKind.i64 base, AVal.own 0 0 m1 m5 false, AVal.int IntKind.i64 (↑(K s m4) : Int)]
  [] []
  [Obj.arr 3
  (rows.append
  [[AVal.int IntKind.i64 (W s i.toNat).kind, AVal.str (W s i.toNat).text,
  AVal.int IntKind.i64 (IntKind.i64.wrap (base + i))]])
  m5]
  D)
  else none
  else none
  else
  bif n0 != 0 then
  k AExit.ret
  (stL 46 [1, 4, 5, 6, 7]
  [AVal.int IntKind.i64 base, AVal.list true 0 fun (x : Nat) => [],
  AVal.int IntKind.i64 (IntKind.i64.wrap (base + (↑(i.toNat + (W s i.toNat).off) : Int))),
  AVal.int IntKind.i64 n0, AVal.own 0 0 q v false]
  [] [] [Obj.arr 3 rows v] D)
  else
  bif c2 then
  bif decide ((0 : Int) ≤ 0 ∧ Int.toNat 0 ≤ s.length ∧ s.length ≤ 1099511627776) then
  k AExit.normal
  (stL 46 [0, 1, 7, 8]
  [AVal.str s, AVal.int IntKind.i64 base, AVal.own 0 0 m1 m5 false,
  AVal.int IntKind.i64 (↑(K s (Int.toNat 0)) : Int)]
  [] []
  [Obj.arr 3
  (rows.append
  [[AVal.int IntKind.i64 (W s i.toNat).kind, AVal.str [],
  AVal.int IntKind.i64 (IntKind.i64.wrap (base + i))]])
  m5]
  D)
  else none
  else none
  else none
  else
  k (AExit.exit 0)
  (stL 46 [1, 4, 5, 6, 7] [AVal.int IntKind.i64 base, AVal.undef, AVal.undef, AVal.undef, AVal.own 0 0 q v false] []
        [] [Obj.arr 3 rows v] D)) := by kernel_rfl
theorem rw_fun (X : WsF) (K : List UInt8 → Nat → Nat) (W : OneF) (s : List UInt8) (base : Int) (k : Out → Ans) : iFun Tryd.prog ((layZ2 K W X).hd Tryd.prog) (layZ2 K W X).fhs 0 34 [.str s, .int .i64 base] [] k = (
 let n0 : Int := (↑(K s (Int.toNat 0)) : Int);
 let m1 : Nat := n0.toNat;
 let c2 : Bool := (X s m1).fst.isEmpty;
 let m3 : Nat := (X s m1).fst.length;
 let m4 : Nat := m3 - 1;
  bif decide ((0 : Int) ≤ 0 ∧ Int.toNat 0 ≤ s.length ∧ s.length ≤ 1099511627776) then
  bif
  tst
  (rwOk s base m1 ∧
  SubTL [AVal.str s, AVal.int IntKind.i64 base, AVal.list true 0 fun (x : Nat) => [], AVal.int IntKind.i64 n0]
  [AVal.str s, AVal.int IntKind.i64 base, AVal.list true 0 fun (x : Nat) => [],
  AVal.int IntKind.i64 (↑m1 : Int)] ∧
  ([] : List (List AVal)) = [] ∧ ([] : Heap) = []) then
  bif (X s m1).snd.isSome then
  bif c2 then
  k
  (Out.ret
  (AVal.tuple
  [AVal.list true 0 fun (x : Nat) => [],
  AVal.int IntKind.i64
  (base + (↑(((X s m1).snd.getD (0, 0, 0)).fst + ((X s m1).snd.getD (0, 0, 0)).snd.fst) : Int)),
  AVal.int IntKind.i64 ((X s m1).snd.getD (0, 0, 0)).snd.snd])
  [])
  else
  k
  (Out.ret
  (AVal.tuple
  [AVal.list true 0 fun (x : Nat) => [],
  AVal.int IntKind.i64
  (base + (↑(((X s m1).snd.getD (0, 0, 0)).fst + ((X s m1).snd.getD (0, 0, 0)).snd.fst) : Int)),
  AVal.int IntKind.i64 ((X s m1).snd.getD (0, 0, 0)).snd.snd])
  [Obj.arr 3 (List.map (encWd base) (X s m1).fst) m4])
  else
  bif c2 then
  k
  (Out.ret
  (AVal.tuple [AVal.list true 0 fun (x : Nat) => [], AVal.int IntKind.i64 base, AVal.int IntKind.i64 0]) [])
  else
  k
  (Out.ret (AVal.tuple [AVal.own 0 0 m3 m4 false, AVal.int IntKind.i64 base, AVal.int IntKind.i64 0])
  [Obj.arr 3 (List.map (encWd base) (X s m1).fst) m4])
  else none
  else none) := by kernel_rfl
end Go.Mu
set_option linter.unusedVariables false
set_option linter.unusedSimpArgs false
set_option maxRecDepth 100000
namespace Go.Mu
open Go Go.Proofs
theorem strQ_off : ∀ (n : Nat) (t acc : List UInt8) (i : Nat), t.length ≤ n → (strQ 0 t acc i).off ≤ i + t.length
  | n, [], acc, i, _ => Nat.zero_le _
  | n, [c], acc, i, _ => by
    rw [strQ]
    cases c == 34 with
    | true => cases decide (acc.length ≤ 4096) <;> exact Nat.zero_le _
    | false =>
      cases c == 92 || c == 10 with
      | true => exact Nat.le_add_right _ _
      | false => exact Nat.zero_le _
  | 0, c :: d :: u, acc, i, h => by simp at h
  | n + 1, c :: d :: u, acc, i, h => by
    simp only [List.length_cons] at h ⊢
    rw [strQ]
    cases c == 34 with
    | true => cases decide (acc.length ≤ 4096) <;> exact Nat.zero_le _
    | false =>
      cases c == 92 && decide (escI d ≥ 0) with
      | true =>
        have := strQ_off n u (acc ++ [escO d]) (i + 2) (by omega)
        simp only [cond_true, cond_false]; omega
      | false =>
        cases c == 92 || c == 10 with
        | true => simp only [cond_true, cond_false]; omega
        | false =>
          have := strQ_off n (d :: u) (acc ++ [c]) (i + 1) (by simp only [List.length_cons]; omega)
          simp only [List.length_cons] at this
          simp only [cond_false]; omega
theorem one_off {t : List UInt8} (ht : t ≠ []) : (oneM t).off ≤ t.length := by
  have hl : 0 < t.length := List.length_pos_iff.2 ht
  unfold oneM
  have q := strQ_off _ (t.drop 1) [] 1 (Nat.le_refl _)
  rw [List.length_drop] at q
  generalize (ltr (t.getD 0 0) || t.getD 0 0 == 95) = b1
  generalize (t.getD 0 0 == 46) = b2
  generalize (t.getD 0 0 == 36) = b3
  generalize (t.getD 0 0 == 45 || dig (t.getD 0 0)) = b4
  generalize (t.getD 0 0 == 34) = b5
  generalize [58, 61].isPrefixOf t = b6
  cases b1 with
  | true => exact Nat.zero_le _
  | false =>
    cases b2 with
    | true => exact Nat.zero_le _
    | false =>
      cases b3 with
      | true => exact Nat.zero_le _
      | false =>
        cases b4 with
        | true => exact Nat.zero_le _
        | false =>
          cases b5 with
          | true => simp only [cond_true, cond_false]; omega
          | false => cases b6 <;> exact Nat.zero_le _
def rwS (ds : List WdD) : AVal := match ds with
  | [] => nilList
  | x :: r => .own 0 0 (r.length + 1) r.length false
def rwSH (base : Int) (ds : List WdD) : Heap := match ds with
  | [] => []
  | x :: r => [.arr 3 ((x :: r).map (encWd base)) r.length]
theorem rw_snoc (base : Int) (ds : List WdD) (x : WdD) : rwS (ds ++ [x]) = .own 0 0 (ds.length + 1) ds.length false ∧ rwSH base (ds ++ [x]) = [.arr 3 ((ds ++ [x]).map (encWd base)) ds.length] := by
  cases ds with
  | nil => exact ⟨rfl, rfl⟩
  | cons a r => simp [rwS, rwSH]
noncomputable abbrev rwTurn := lturn Tryd.prog (layZ1 skN oneA) (rwFH wdsR) 34 3 [0,1,7,8] [] [1,4,5,6,7] []
abbrev rwI (s : List UInt8) (base : Int) (ds : List WdD) (i : Nat) : List AVal := [.str s, .int .i64 base, rwS ds, .int .i64 (i : Nat)]
theorem rw_round (s : List UInt8) (base : Int) (hs : s.length ≤ 1073741824) (h0 : 0 ≤ base) (h1 : base ≤ 1099511627776) (ds : List WdD) (i : Nat) (hi : i ≤ s.length) (hd : ds.length ≤ i) (D : List (FuncId × List AVal)) (k : Kont) : rwTurn (stL 46 [0,1,7,8] (rwI s base ds i) [] [] (rwSH base ds) D) k =
    bif decide (i < s.length) then
      bif (oneM (s.drop i)).e == 0 then k .normal (stL 46 [0,1,7,8] (rwI s base (ds ++ [⟨(oneM (s.drop i)).kind, (oneM (s.drop i)).text, i⟩]) (skN s (i + (oneM (s.drop i)).len))) [] [] (rwSH base (ds ++ [⟨(oneM (s.drop i)).kind, (oneM (s.drop i)).text, i⟩])) D)
      else k .ret (stL 46 [1,4,5,6,7] [.int .i64 base, nilList, .int .i64 (base + ((i + (oneM (s.drop i)).off : Nat) : Int)), .int .i64 (oneM (s.drop i)).e, rwS ds] [] [] (rwSH base ds) D)
    else k (.exit 0) (stL 46 [1,4,5,6,7] [.int .i64 base, .undef, .undef, .undef, rwS ds] [] [] (rwSH base ds) D) := by
  by_cases h : i < s.length
  case neg =>
    rw [dF h]
    cases ds with
    | nil => exact (rw_s0 wdsR skN oneA s base i D k).trans (by rw [dF (show ¬ (i : Int) < s.length by omega)]; rfl)
    | cons x r => exact (rw_s1 wdsR skN oneA s base i _ _ _ D k).trans (by rw [dF (show ¬ (i : Int) < s.length by omega)]; rfl)
  have hne : s.drop i ≠ [] := by
    intro e
    have := congrArg List.length e
    simp at this; omega
  have ho := one_off hne
  rw [List.length_drop] at ho
  have ew : IntKind.i64.wrap (base + (i : Int)) = base + (i : Int) := wrapI (by omega) (by omega)
  have ew2 : IntKind.i64.wrap (base + ((i + (oneM (s.drop i)).off : Nat) : Int)) = base + ((i + (oneM (s.drop i)).off : Nat) : Int) := wrapI (by omega) (by omega)
  have hA : decide (0 ≤ (i : Int) ∧ i < s.length ∧ s.length ≤ 1099511627776) = true := dT ⟨by omega, h, by omega⟩
  rw [dT h]
  simp only [cond_true]
  cases ds with
  | nil =>
    refine (rw_s0 wdsR skN oneA s base i D k).trans ?_
    simp only [show oneA s i = oneM (s.drop i) from rfl, Int.toNat_natCast, dT (show (i : Int) < s.length by omega), hA, cond_true, ew, ew2]
    cases he : (oneM (s.drop i)).e == 0 with
    | true =>
      obtain ⟨l1, l2⟩ := one_len hne (by simpa using he)
      rw [List.length_drop] at l2
      have hB : decide (0 ≤ ((i + (oneM (s.drop i)).len : Nat) : Int) ∧ i + (oneM (s.drop i)).len ≤ s.length ∧ s.length ≤ 1099511627776) = true := dT ⟨by omega, by omega, by omega⟩
      simp only [cond_true, hB]
      rfl
    | false =>
      have he2 : ((oneM (s.drop i)).e != 0) = true := by rw [bne, he]; rfl
      simp only [cond_false, he2, cond_true]
      rfl
  | cons x r =>
    simp only [List.length_cons] at hd
    refine (rw_s1 wdsR skN oneA s base i (r.length + 1) r.length ((x :: r).map (encWd base)) D k).trans ?_
    have hq : (r.length + 1 == ((x :: r).map (encWd base)).length) = true := by simp
    obtain ⟨v1, v2⟩ := rw_snoc base (x :: r) ⟨(oneM (s.drop i)).kind, (oneM (s.drop i)).text, i⟩
    have ap : ((x :: r).map (encWd base)).append [[AVal.int IntKind.i64 (oneM (s.drop i)).kind, AVal.str (oneM (s.drop i)).text, AVal.int IntKind.i64 (base + (i : Int))]] = (x :: r ++ [WdD.mk (oneM (s.drop i)).kind (oneM (s.drop i)).text i]).map (encWd base) := by
      show (x :: r).map (encWd base) ++ [_] = _
      rw [List.map_append]; rfl
    simp only [show oneA s i = oneM (s.drop i) from rfl, Int.toNat_natCast, dT (show (i : Int) < s.length by omega), hA, cond_true, ew, ew2, hq, beq_self_eq_true, Bool.and_self, dT (show (2 * (r.length + 1 + 1) + 1000) * 32 ≤ 281474976710656 by omega)]
    cases he : (oneM (s.drop i)).e == 0 with
    | true =>
      obtain ⟨l1, l2⟩ := one_len hne (by simpa using he)
      rw [List.length_drop] at l2
      have hB : decide (0 ≤ ((i + (oneM (s.drop i)).len : Nat) : Int) ∧ i + (oneM (s.drop i)).len ≤ s.length ∧ s.length ≤ 1099511627776) = true := dT ⟨by omega, by omega, by omega⟩
      simp only [cond_true, hB, rwI, v1, v2, ap]
      rfl
    | false =>
      have he2 : ((oneM (s.drop i)).e != 0) = true := by rw [bne, he]; rfl
      simp only [cond_false, he2, cond_true]
      rfl
theorem rw_runs (s : List UInt8) (base : Int) (hs : s.length ≤ 1073741824) (h0 : 0 ≤ base) (h1 : base ≤ 1099511627776) : ∀ (m i : Nat) (ds : List WdD), s.length - i ≤ m → i ≤ s.length → ds.length ≤ i → (i < s.length → blk (s.getD i 0) = false) →
    ((wdsM m (s.drop i) i).2 = none → LoopRuns rwTurn 46 [0,1,7,8] [] [1,4,5,6,7] [] (rwI s base ds i) [] (rwSH base ds) (.exit 0) [.int .i64 base, .undef, .undef, .undef, rwS (ds ++ (wdsM m (s.drop i) i).1)] [] (rwSH base (ds ++ (wdsM m (s.drop i) i).1))) ∧
    (∀ q off e, (wdsM m (s.drop i) i).2 = some (q, off, e) → LoopRuns rwTurn 46 [0,1,7,8] [] [1,4,5,6,7] [] (rwI s base ds i) [] (rwSH base ds) .ret [.int .i64 base, nilList, .int .i64 (base + ((q + off : Nat) : Int)), .int .i64 e, rwS (ds ++ (wdsM m (s.drop i) i).1)] [] (rwSH base (ds ++ (wdsM m (s.drop i) i).1))) := by
  intro m
  induction m with
  | zero =>
    intro i ds hm hi hd hb
    refine ⟨fun _ => .stop (by simp) (fun D k => ?_), fun q off e h => by cases h⟩
    rw [rw_round s base hs h0 h1 ds i hi hd D k, dF (by omega), wdsM, List.append_nil]
    rfl
  | succ m ih =>
    intro i ds hm hi hd hb
    by_cases hlt : i < s.length
    case neg =>
      have e : s.drop i = [] := List.drop_eq_nil_of_le (by omega)
      rw [e]
      refine ⟨fun _ => .stop (by simp) (fun D k => ?_), fun q off e h => by cases h⟩
      rw [rw_round s base hs h0 h1 ds i hi hd D k, dF hlt]
      show _ = k (.exit 0) (stL 46 [1,4,5,6,7] [.int .i64 base, .undef, .undef, .undef, rwS (ds ++ [])] [] [] (rwSH base (ds ++ [])) D)
      rw [List.append_nil]
      rfl
    have key := fun D k => rw_round s base hs h0 h1 ds i hi hd D k
    have hne : s.drop i ≠ [] := by
      intro e
      have := congrArg List.length e
      simp at this; omega
    have hne2 : (s.drop i == []) = false := by simpa using hne
    have hg : (s.drop i).getD 0 0 = s.getD i 0 := by rw [List.getD_drop]; rfl
    simp only [dT hlt, cond_true] at key
    rw [wdsM, hne2, hg, hb hlt]
    simp only [cond_false]
    cases he : (oneM (s.drop i)).e == 0 with
    | true =>
      obtain ⟨l1, l2⟩ := one_len hne (by simpa using he)
      rw [List.length_drop] at l2
      simp only [he, cond_true] at key ⊢
      have ed : (s.drop i).drop (oneM (s.drop i)).len = s.drop (i + (oneM (s.drop i)).len) := by rw [List.drop_drop]
      rw [ed, wdsM_skip s m (i + (oneM (s.drop i)).len) (by omega) (by omega)]
      have hle := skN_le (s := s) _ (i + (oneM (s.drop i)).len) (Nat.le_refl _) (by omega)
      have hge : i + (oneM (s.drop i)).len ≤ skN s (i + (oneM (s.drop i)).len) := by unfold skN; omega
      have := ih (skN s (i + (oneM (s.drop i)).len)) (ds ++ [⟨(oneM (s.drop i)).kind, (oneM (s.drop i)).text, i⟩]) (by omega) hle (by rw [List.length_append]; show _ + 1 ≤ _; omega) (skN_stop _ _ (Nat.le_refl _))
      rw [List.append_assoc, List.singleton_append] at this
      exact ⟨fun h => .step key (this.1 h), fun q off e h => .step key (this.2 q off e h)⟩
    | false =>
      simp only [he, cond_false] at key ⊢
      refine ⟨(fun h => by cases h), fun q off e h => ?_⟩
      cases h
      rw [List.append_nil]
      exact .stop (by simp) key
theorem rwS_e {ds : List WdD} (base : Int) (h : ds.isEmpty = true) : rwS ds = nilList ∧ rwSH base ds = [] := by
  cases ds with
  | nil => exact ⟨rfl, rfl⟩
  | cons a r => cases h
theorem rwS_ne {ds : List WdD} (base : Int) (h : ds.isEmpty = false) : rwS ds = .own 0 0 ds.length (ds.length - 1) false ∧ rwSH base ds = [.arr 3 (ds.map (encWd base)) (ds.length - 1)] := by
  cases ds with
  | nil => cases h
  | cons a r => exact ⟨rfl, rfl⟩
theorem rwSp_ok : SpOK rwTurn 46 [0,1,7,8] [] [1,4,5,6,7] [] (rwSp wdsR) := mkL_ok fun x h => by
  obtain ⟨s, base, i⟩ := x
  obtain ⟨g1, g2, g3, g4, g5⟩ := h
  have key := rw_runs s base g2 g3 g4 s.length i [] (by omega) g1 (Nat.zero_le _) g5
  rw [List.nil_append] at key
  show ∃ e vs bs H, (∀ k : AExit → List AVal → List (List AVal) → Heap → Ans, cond (wdsR s i).2.isSome (cond (wdsR s i).1.isEmpty _ _) (cond (wdsR s i).1.isEmpty _ _) = k e vs bs H) ∧ _
  have hk : wdsM s.length (s.drop i) i = wdsR s i := rfl
  rw [hk] at key
  cases hb : (wdsR s i).2 with
  | none =>
    have k1 := key.1 hb
    cases he : (wdsR s i).1.isEmpty with
    | true =>
      rw [(rwS_e base he).1, (rwS_e base he).2] at k1
      exact ⟨_, _, _, _, fun k => rfl, k1⟩
    | false =>
      rw [(rwS_ne base he).1, (rwS_ne base he).2] at k1
      exact ⟨_, _, _, _, fun k => rfl, k1⟩
  | some v =>
    obtain ⟨q, off, e⟩ := v
    have k1 := key.2 q off e hb
    cases he : (wdsR s i).1.isEmpty with
    | true =>
      rw [(rwS_e base he).1, (rwS_e base he).2] at k1
      exact ⟨_, _, _, _, fun k => by simp only [hb]; rfl, k1⟩
    | false =>
      rw [(rwS_ne base he).1, (rwS_ne base he).2] at k1
      exact ⟨_, _, _, _, fun k => by simp only [hb]; rfl, k1⟩
theorem layZ2_ok : (layZ2 skN oneA wdsR).OK Tryd.prog := layZ1_ok.loop1 (id := 3) (by kernel_rfl) (by kernel_rfl) (by kernel_rfl) rwSp_ok
end Go.Mu
set_option linter.unusedVariables false
set_option linter.unusedSimpArgs false
set_option maxRecDepth 100000
namespace Go.Mu
open Go Go.Proofs
theorem wdsR_0 (s : List UInt8) : wdsR s (skN s 0) = (wordsOf s, wordsE s) := by
  have h := wdsM_skip s s.length 0 (by omega) (Nat.zero_le _)
  rw [List.drop_zero] at h
  show wdsM s.length (s.drop (skN s 0)) (skN s 0) = _
  rw [← h]
  rfl
theorem rwOk_0 {s : List UInt8} {base : Int} (hs : s.length ≤ 1073741824) (h0 : 0 ≤ base) (h1 : base ≤ 1099511627776) : rwOk s base (skN s 0) := ⟨skN_le _ 0 (Nat.le_refl _) (Nat.zero_le _), hs, h0, h1, skN_stop _ 0 (Nat.le_refl _)⟩
theorem wordsR_call (s : List UInt8) (base : Int) (hs : s.length ≤ 1073741824) (h0 : 0 ≤ base) (h1 : base ≤ 1099511627776) (k : Out → Ans) : iFun Tryd.prog ((layZ2 skN oneA wdsR).hd Tryd.prog) (layZ2 skN oneA wdsR).fhs 0 34 [.str s, .int .i64 base] [] k =
    cond (wordsE s).isSome (cond (wordsOf s).isEmpty (k (.ret (.tuple [nilList, .int .i64 (base + (wdAt s : Int)), .int .i64 (wdErr s)]) [])) (k (.ret (.tuple [nilList, .int .i64 (base + (wdAt s : Int)), .int .i64 (wdErr s)]) [.arr 3 ((wordsOf s).map (encWd base)) ((wordsOf s).length - 1)])))
      (cond (wordsOf s).isEmpty (k (.ret (.tuple [nilList, .int .i64 base, .int .i64 0]) [])) (k (.ret (.tuple [.own 0 0 (wordsOf s).length ((wordsOf s).length - 1) false, .int .i64 base, .int .i64 0]) [.arr 3 ((wordsOf s).map (encWd base)) ((wordsOf s).length - 1)]))) := by
  have key := rw_fun wdsR skN oneA s base k
  simp only [Int.toNat_natCast, Int.toNat_zero, dT (show (0 : Int) ≤ 0 ∧ 0 ≤ s.length ∧ s.length ≤ 1099511627776 from ⟨Int.le_refl _, Nat.zero_le _, by omega⟩), cond_true, wdsR_0] at key
  refine key.trans ?_
  refine (congrArg (fun c => cond c _ none) (tst_true ⟨rwOk_0 hs h0 h1, .refl _, by trivial, by trivial⟩)).trans ?_
  rfl
theorem wordsRTold_ok : ∀ xs H k out, wordsTold xs H k = some out → ∃ o, CallOK Tryd.prog 34 xs H o ∧ k o = some out := mkFS_ok fun ys xs e h => by
  obtain ⟨s, n, rfl⟩ : ∃ s n, xs = [.str s, .int .i64 n] := ⟨_, _, e⟩
  replace h : s.length ≤ 1073741824 ∧ 0 ≤ n ∧ n ≤ 1099511627776 := of_decide_eq_true h
  have key := fun k => wordsR_call s n h.1 h.2.1 h.2.2 k
  show ∃ o, (∀ k : Out → Ans, cond (wordsE s).isSome _ _ = k o) ∧ _
  cases hb : (wordsE s).isSome with
  | true =>
    simp only [hb, cond_true] at key
    cases he : (wordsOf s).isEmpty with
    | true =>
      simp only [he, cond_true] at key
      exact ⟨_, fun k => rfl, layZ2_ok.callF rfl key⟩
    | false =>
      simp only [he, cond_false] at key
      exact ⟨_, fun k => rfl, layZ2_ok.callF rfl key⟩
  | false =>
    simp only [hb, cond_false] at key
    cases he : (wordsOf s).isEmpty with
    | true =>
      simp only [he, cond_true] at key
      have h0 : wordsOf s = [] := List.isEmpty_iff.1 he
      refine ⟨_, fun k => rfl, ?_⟩
      show CallOK Tryd.prog 34 [.str s, .int .i64 n] [] (.ret (.tuple [encWds n (wordsOf s), .int .i64 n, .int .i64 0]) [])
      rw [h0]
      exact (layZ2_ok.callF rfl key).sub (.refl _) ⟨Sub.tuple (.cons (Sub.list (fun h => by cases h) (fun i hi => absurd hi (Nat.not_lt_zero i))) (.refl _)), rfl⟩
    | false =>
      simp only [he, cond_false] at key
      obtain ⟨v, g1, g2⟩ := freeze_rows (f := encWd n) (d := ⟨0, [], 0⟩) (l := wordsOf s) (k := 0) (sz := 3) (u := (wordsOf s).length - 1) (H := [.arr 3 ((wordsOf s).map (encWd n)) ((wordsOf s).length - 1)]) rfl (fun a => rfl)
      rw [List.length_map] at g1
      exact ⟨_, fun k => rfl, ((layZ2_ok.call key).freeze (d := 3) (freeze_t3 g1)).sub (.refl _) ⟨Sub.tuple (.cons g2 (.refl _)), rfl⟩⟩
end Go.Mu
set_option linter.unusedVariables false
set_option linter.unusedSimpArgs false
set_option maxRecDepth 100000
namespace Go.Mu
open Go Go.Proofs
noncomputable def layMy : Lay := layBk.addF 34 wordsTold
theorem layMy_ok : layMy.OK Tryd.prog := layBk_ok.addF wordsRTold_ok
theorem may19_fun (s : List UInt8) (k : Out → Ans) : iFun Tryd.prog (layMy.hd Tryd.prog) layMy.fhs 0 4 [.str s] [] k = (
 let c0 : Bool := decide (s.length ≤ 1073741824 ∧ (0 : Int) ≤ 0 ∧ (0 : Int) ≤ 1099511627776);
 let c1 : Bool := (wordsE s).isSome;
 let m2 : Nat :=
  (parV (AVal.list false (wordsOf s).length fun (i : Nat) => encWd 0 ((wordsOf s).getD i wd0)) 0).length;
 let l3 : List UInt8 :=
  printR
  (AVal.list false m2 fun (i : Nat) =>
  encCall
  ((parV (AVal.list false (wordsOf s).length fun (i : Nat) => encWd 0 ((wordsOf s).getD i wd0))
  0).getD
  i callD0));
 let c4 : Bool :=
  tst
  ((AVal.list false m2 fun (i : Nat) =>
  encCall
  ((parV (AVal.list false (wordsOf s).length fun (i : Nat) => encWd 0 ((wordsOf s).getD i wd0))
  0).getD
  i callD0)) =
  encPipe false
  (decL decCall
  (AVal.list false m2 fun (i : Nat) =>
  encCall
  ((parV
  (AVal.list false (wordsOf s).length fun (i : Nat) => encWd 0 ((wordsOf s).getD i wd0))
  0).getD
  i callD0))) ∧
  okPipe
  (decL decCall
  (AVal.list false m2 fun (i : Nat) =>
  encCall
  ((parV (AVal.list false (wordsOf s).length fun (i : Nat) => encWd 0 ((wordsOf s).getD i wd0))
  0).getD
  i callD0))));
 let c5 : Bool :=
  pipeB
  (decL decCall
  (AVal.list false m2 fun (i : Nat) =>
  encCall
  ((parV (AVal.list false (wordsOf s).length fun (i : Nat) => encWd 0 ((wordsOf s).getD i wd0))
  0).getD
  i callD0)));
  bif c0 then
  bif c1 then
  bif c0 then
  bif c1 then
  bif
  tst
  (parOkR (AVal.list true 0 fun (x : Nat) => []) ∧
  SubL [AVal.list true 0 fun (x : Nat) => [], AVal.int IntKind.i64 0]
  [encWqsR (AVal.list true 0 fun (x : Nat) => []), AVal.int IntKind.i64 0] ∧
  ([] : Heap) = []) then
  k (Out.ret (AVal.bool true) [])
  else none
  else
  bif
  tst
  (parOkR (AVal.list true 0 fun (x : Nat) => []) ∧
  SubL [AVal.list true 0 fun (x : Nat) => [], AVal.int IntKind.i64 0]
  [encWqsR (AVal.list true 0 fun (x : Nat) => []), AVal.int IntKind.i64 0] ∧
  ([] : Heap) = []) then
  k (Out.ret (AVal.bool true) [])
  else none
  else none
  else
  bif c0 then
  bif c1 then
  bif
  tst
  (parOkR
  (AVal.list false (wordsOf s).length fun (i : Nat) => encWd 0 ((wordsOf s).getD i wd0)) ∧
  SubL
  [AVal.list false (wordsOf s).length fun (i : Nat) => encWd 0 ((wordsOf s).getD i wd0),
  AVal.int IntKind.i64 0]
  [encWqsR
  (AVal.list false (wordsOf s).length fun (i : Nat) =>
  encWd 0 ((wordsOf s).getD i wd0)),
  AVal.int IntKind.i64 0] ∧
  ([] : Heap) = []) then
  bif
  parE (AVal.list false (wordsOf s).length fun (i : Nat) => encWd 0 ((wordsOf s).getD i wd0))
  0 !=
  0 then
  k (Out.ret (AVal.bool ((↑m2 : Int) == 0)) [])
  else
  bif
  tst
  (okPR
  (AVal.list false m2 fun (i : Nat) =>
  encCall
  ((parV
  (AVal.list false (wordsOf s).length fun (i : Nat) =>
  encWd 0 ((wordsOf s).getD i wd0))
  0).getD
  i callD0)) ∧
  SubL
  [AVal.list false m2 fun (i : Nat) =>
  encCall
  ((parV
  (AVal.list false (wordsOf s).length fun (i : Nat) =>
  encWd 0 ((wordsOf s).getD i wd0))
  0).getD
  i callD0)]
  [encPsR
  (AVal.list false m2 fun (i : Nat) =>
  encCall
  ((parV
  (AVal.list false (wordsOf s).length fun (i : Nat) =>
  encWd 0 ((wordsOf s).getD i wd0))
  0).getD
  i callD0))] ∧
  ([] : Heap) = []) then
  bif decide (l3.length ≤ 1073741824 ∧ (0 : Int) ≤ 0 ∧ (0 : Int) ≤ 1099511627776) then
  bif (wordsE l3).isSome then
  bif
  tst
  (parOkR (AVal.list true 0 fun (x : Nat) => []) ∧
  SubL [AVal.list true 0 fun (x : Nat) => [], AVal.int IntKind.i64 0]
  [encWqsR (AVal.list true 0 fun (x : Nat) => []), AVal.int IntKind.i64 0] ∧
  ([] : Heap) = []) then
  bif c4 then
  bif
  tst
  ((AVal.list false m2 fun (i : Nat) =>
  encCall
  ((parV
  (AVal.list false (wordsOf s).length fun (i : Nat) =>
  encWd 0 ((wordsOf s).getD i wd0))
  0).getD
  i callD0)) =
  encPipe false
  (decL decCall
  (AVal.list false m2 fun (i : Nat) =>
  encCall
  ((parV
  (AVal.list false (wordsOf s).length fun (i : Nat) =>
  encWd 0 ((wordsOf s).getD i wd0))
  0).getD
  i callD0))) ∧
  (AVal.list false 0 fun (i : Nat) => encCall callD0) =
  encPipe false
  (decL decCall (AVal.list false 0 fun (i : Nat) => encCall callD0)) ∧
  okPipe
  (decL decCall
  (AVal.list false m2 fun (i : Nat) =>
  encCall
  ((parV
  (AVal.list false (wordsOf s).length fun (i : Nat) =>
  encWd 0 ((wordsOf s).getD i wd0))
  0).getD
  i callD0))) ∧
  okPipe
  (decL decCall
  (AVal.list false 0 fun (i : Nat) => encCall callD0))) then
  k
  (Out.ret
  (AVal.bool
  (bif
  bif c5 then
  IntKind.i64.wrap (wdErr l3 + parE (AVal.list true 0 fun (x : Nat) => []) 0) == 0
  else false then
  pipeEq
  (decL decCall
  (AVal.list false m2 fun (i : Nat) =>
  encCall
  ((parV
  (AVal.list false (wordsOf s).length fun (i : Nat) =>
  encWd 0 ((wordsOf s).getD i wd0))
  0).getD
  i callD0)))
  (decL decCall (AVal.list false 0 fun (i : Nat) => encCall callD0))
  else false))
  [])
  else none
  else none
  else none
  else
  bif
  tst
  (parOkR
  (AVal.list false (wordsOf l3).length fun (i : Nat) =>
  encWd 0
  ((wordsOf
  (printR
  (AVal.list false
  (parV
  (AVal.list false (wordsOf s).length fun (i : Nat) =>
  encWd 0 ((wordsOf s).getD i wd0))
  0).length
  fun (i : Nat) =>
  encCall
  ((parV
  (AVal.list false (wordsOf s).length fun (i : Nat) =>
  encWd 0 ((wordsOf s).getD i wd0))
  0).getD
  i callD0)))).getD
  i wd0)) ∧
  SubL
  [AVal.list false (wordsOf l3).length fun (i : Nat) =>
  encWd 0
  ((wordsOf
  (printR
  (AVal.list false
  (parV
  (AVal.list false (wordsOf s).length fun (i : Nat) =>
  encWd 0 ((wordsOf s).getD i wd0))
  0).length
  fun (i : Nat) =>
  encCall
  ((parV
  (AVal.list false (wordsOf s).length fun (i : Nat) =>
  encWd 0 ((wordsOf s).getD i wd0))
  0).getD
  i callD0)))).getD
  i wd0),
  AVal.int IntKind.i64 0]
  [encWqsR
  (AVal.list false (wordsOf l3).length fun (i : Nat) =>
  encWd 0
  ((wordsOf
  (printR
  (AVal.list false
  (parV
  (AVal.list false (wordsOf s).length fun (i : Nat) =>
  encWd 0 ((wordsOf s).getD i wd0))
  0).length
  fun (i : Nat) =>
  encCall
  ((parV
  (AVal.list false (wordsOf s).length fun (i : Nat) =>
  encWd 0 ((wordsOf s).getD i wd0))
  0).getD
  i callD0)))).getD
  i wd0)),
  AVal.int IntKind.i64 0] ∧
  ([] : Heap) = []) then
  bif c4 then
  bif
  tst
  ((AVal.list false m2 fun (i : Nat) =>
  encCall
  ((parV
  (AVal.list false (wordsOf s).length fun (i : Nat) =>
  encWd 0 ((wordsOf s).getD i wd0))
  0).getD
  i callD0)) =
  encPipe false
  (decL decCall
  (AVal.list false m2 fun (i : Nat) =>
  encCall
  ((parV
  (AVal.list false (wordsOf s).length fun (i : Nat) =>
  encWd 0 ((wordsOf s).getD i wd0))
  0).getD
  i callD0))) ∧
  (AVal.list false
  (parV
  (AVal.list false (wordsOf l3).length fun (i : Nat) =>
  encWd 0
  ((wordsOf
  (printR
  (AVal.list false
  (parV
  (AVal.list false (wordsOf s).length fun (i : Nat) =>
  encWd 0 ((wordsOf s).getD i wd0))
  0).length
  fun (i : Nat) =>
  encCall
  ((parV
  (AVal.list false (wordsOf s).length fun (i : Nat) =>
  encWd 0 ((wordsOf s).getD i wd0))
  0).getD
  i callD0)))).getD
  i wd0))
  0).length
  fun (i : Nat) =>
  encCall
  ((parV
  (AVal.list false
  (wordsOf
  (printR
  (AVal.list false
  (parV
  (AVal.list false (wordsOf s).length fun (i : Nat) =>
  encWd 0 ((wordsOf s).getD i wd0))
  0).length
  fun (i : Nat) =>
  encCall
  ((parV
  (AVal.list false (wordsOf s).length fun (i : Nat) =>
  encWd 0 ((wordsOf s).getD i wd0))
  0).getD
  i callD0)))).length
  fun (i : Nat) =>
  encWd 0
  ((wordsOf
  (printR
  (AVal.list false
  (parV
  (AVal.list false (wordsOf s).length fun (i : Nat) =>
  encWd 0 ((wordsOf s).getD i wd0))
  0).length
  fun (i : Nat) =>
  encCall
  ((parV
  (AVal.list false (wordsOf s).length fun (i : Nat) =>
  encWd 0 ((wordsOf s).getD i wd0))
  0).getD
  i callD0)))).getD
  i wd0))
  0).getD
  i callD0)) =
  encPipe false
  (decL decCall
  (AVal.list false
  (parV
  (AVal.list false (wordsOf l3).length fun (i : Nat) =>
  encWd 0
  ((wordsOf
  (printR
  (AVal.list false
  (parV
  (AVal.list false (wordsOf s).length fun (i : Nat) =>
  encWd 0 ((wordsOf s).getD i wd0))
  0).length
  fun (i : Nat) =>
  encCall
  ((parV
  (AVal.list false (wordsOf s).length fun (i : Nat) =>
  encWd 0 ((wordsOf s).getD i wd0))
  0).getD
  i callD0)))).getD
  i wd0))
  0).length
  fun (i : Nat) =>
  encCall
  ((parV
  (AVal.list false
  (wordsOf
  (printR
  (AVal.list false
  (parV
  (AVal.list false (wordsOf s).length fun (i : Nat) =>
  encWd 0 ((wordsOf s).getD i wd0))
  0).length
  fun (i : Nat) =>
  encCall
  ((parV
  (AVal.list false (wordsOf s).length fun (i : Nat) =>
  encWd 0 ((wordsOf s).getD i wd0))
  0).getD
  i callD0)))).length
  fun (i : Nat) =>
  encWd 0
  ((wordsOf
  (printR
  (AVal.list false
  (parV
  (AVal.list false (wordsOf s).length fun (i : Nat) =>
  encWd 0 ((wordsOf s).getD i wd0))
  0).length
  fun (i : Nat) =>
  encCall
  ((parV
  (AVal.list false (wordsOf s).length
  fun (i : Nat) =>
  encWd 0 ((wordsOf s).getD i wd0))
  0).getD
  i callD0)))).getD
  i wd0))
  0).getD
  i callD0))) ∧
  okPipe
  (decL decCall
  (AVal.list false m2 fun (i : Nat) =>
  encCall
  ((parV
  (AVal.list false (wordsOf s).length fun (i : Nat) =>
  encWd 0 ((wordsOf s).getD i wd0))
  0).getD
  i callD0))) ∧
  okPipe
  (decL decCall
  (AVal.list false
  (parV
  (AVal.list false (wordsOf l3).length fun (i : Nat) =>
  encWd 0
  ((wordsOf
  (printR
  (AVal.list false
  (parV
  (AVal.list false (wordsOf s).length fun (i : Nat) =>
  encWd 0 ((wordsOf s).getD i wd0))
  0).length
  fun (i : Nat) =>
  encCall
  ((parV
  (AVal.list false (wordsOf s).length fun (i : Nat) =>
  encWd 0 ((wordsOf s).getD i wd0))
  0).getD
  i callD0)))).getD
  i wd0))
  0).length
  fun (i : Nat) =>
  encCall
  ((parV
  (AVal.list false
  (wordsOf
  (printR
  (AVal.list false
  (parV
  (AVal.list false (wordsOf s).length fun (i : Nat) =>
  encWd 0 ((wordsOf s).getD i wd0))
  0).length
  fun (i : Nat) =>
  encCall
  ((parV
  (AVal.list false (wordsOf s).length fun (i : Nat) =>
  encWd 0 ((wordsOf s).getD i wd0))
  0).getD
  i callD0)))).length
  fun (i : Nat) =>
  encWd 0
  ((wordsOf
  (printR
  (AVal.list false
  (parV
  (AVal.list false (wordsOf s).length fun (i : Nat) =>
  encWd 0 ((wordsOf s).getD i wd0))
  0).length
  fun (i : Nat) =>
  encCall
  ((parV
  (AVal.list false (wordsOf s).length
  fun (i : Nat) =>
  encWd 0 ((wordsOf s).getD i wd0))
  0).getD
  i callD0)))).getD
  i wd0))
  0).getD
  i callD0)))) then
  k
  (Out.ret
  (AVal.bool
  (bif
  bif c5 then
  IntKind.i64.wrap
  (0 +
  parE
  (AVal.list false (wordsOf l3).length fun (i : Nat) =>
  encWd 0
  ((wordsOf
  (printR
  (AVal.list false
  (parV
  (AVal.list false (wordsOf s).length fun (i : Nat) =>
  encWd 0 ((wordsOf s).getD i wd0))
  0).length
  fun (i : Nat) =>
  encCall
  ((parV
  (AVal.list false (wordsOf s).length fun (i : Nat) =>
  encWd 0 ((wordsOf s).getD i wd0))
  0).getD
  i callD0)))).getD
  i wd0))
  0) ==
  0
  else false then
  pipeEq
  (decL decCall
  (AVal.list false m2 fun (i : Nat) =>
  encCall
  ((parV
  (AVal.list false (wordsOf s).length fun (i : Nat) =>
  encWd 0 ((wordsOf s).getD i wd0))
  0).getD
  i callD0)))
  (decL decCall
  (AVal.list false
  (parV
  (AVal.list false (wordsOf l3).length fun (i : Nat) =>
  encWd 0
  ((wordsOf
  (printR
  (AVal.list false
  (parV
  (AVal.list false (wordsOf s).length fun (i : Nat) =>
  encWd 0 ((wordsOf s).getD i wd0))
  0).length
  fun (i : Nat) =>
  encCall
  ((parV
  (AVal.list false (wordsOf s).length fun (i : Nat) =>
  encWd 0 ((wordsOf s).getD i wd0))
  0).getD
  i callD0)))).getD
  i wd0))
  0).length
  fun (i : Nat) =>
  encCall
  ((parV
  (AVal.list false
  (wordsOf
  (printR
  (AVal.list false
  (parV
  (AVal.list false (wordsOf s).length fun (i : Nat) =>
  encWd 0 ((wordsOf s).getD i wd0))
  0).length
  fun (i : Nat) =>
  encCall
  ((parV
  (AVal.list false (wordsOf s).length fun (i : Nat) =>
  encWd 0 ((wordsOf s).getD i wd0))
  0).getD
  i callD0)))).length
  fun (i : Nat) =>
  encWd 0
  ((wordsOf
  (printR
  (AVal.list false
  (parV
  (AVal.list false (wordsOf s).length fun (i : Nat) =>
  encWd 0 ((wordsOf s).getD i wd0))
  0).length
  fun (i : Nat) =>
  encCall
  ((parV
  (AVal.list false (wordsOf s).length fun (i : Nat) =>
  encWd 0 ((wordsOf s).getD i wd0))
  0).getD
  i callD0)))).getD
  i wd0))
  0).getD
  i callD0)))
  else false))
  [])
  else none
  else none
  else none
  else none
  else none
  else none
  else
  bif
  tst
  (parOkR
  (AVal.list false (wordsOf s).length fun (i : Nat) => encWd 0 ((wordsOf s).getD i wd0)) ∧
  SubL
  [AVal.list false (wordsOf s).length fun (i : Nat) => encWd 0 ((wordsOf s).getD i wd0),
  AVal.int IntKind.i64 0]
  [encWqsR
  (AVal.list false (wordsOf s).length fun (i : Nat) =>
  encWd 0 ((wordsOf s).getD i wd0)),
  AVal.int IntKind.i64 0] ∧
  ([] : Heap) = []) then
  bif
  parE (AVal.list false (wordsOf s).length fun (i : Nat) => encWd 0 ((wordsOf s).getD i wd0))
  0 !=
  0 then
  k (Out.ret (AVal.bool ((↑m2 : Int) == 0)) [])
  else
  bif
  tst
  (okPR
  (AVal.list false m2 fun (i : Nat) =>
  encCall
  ((parV
  (AVal.list false (wordsOf s).length fun (i : Nat) =>
  encWd 0 ((wordsOf s).getD i wd0))
  0).getD
  i callD0)) ∧
  SubL
  [AVal.list false m2 fun (i : Nat) =>
  encCall
  ((parV
  (AVal.list false (wordsOf s).length fun (i : Nat) =>
  encWd 0 ((wordsOf s).getD i wd0))
  0).getD
  i callD0)]
  [encPsR
  (AVal.list false m2 fun (i : Nat) =>
  encCall
  ((parV
  (AVal.list false (wordsOf s).length fun (i : Nat) =>
  encWd 0 ((wordsOf s).getD i wd0))
  0).getD
  i callD0))] ∧
  ([] : Heap) = []) then
  bif decide (l3.length ≤ 1073741824 ∧ (0 : Int) ≤ 0 ∧ (0 : Int) ≤ 1099511627776) then
  bif (wordsE l3).isSome then
  bif
  tst
  (parOkR (AVal.list true 0 fun (x : Nat) => []) ∧
  SubL [AVal.list true 0 fun (x : Nat) => [], AVal.int IntKind.i64 0]
  [encWqsR (AVal.list true 0 fun (x : Nat) => []), AVal.int IntKind.i64 0] ∧
  ([] : Heap) = []) then
  bif c4 then
  bif
  tst
  ((AVal.list false m2 fun (i : Nat) =>
  encCall
  ((parV
  (AVal.list false (wordsOf s).length fun (i : Nat) =>
  encWd 0 ((wordsOf s).getD i wd0))
  0).getD
  i callD0)) =
  encPipe false
  (decL decCall
  (AVal.list false m2 fun (i : Nat) =>
  encCall
  ((parV
  (AVal.list false (wordsOf s).length fun (i : Nat) =>
  encWd 0 ((wordsOf s).getD i wd0))
  0).getD
  i callD0))) ∧
  (AVal.list false 0 fun (i : Nat) => encCall callD0) =
  encPipe false
  (decL decCall (AVal.list false 0 fun (i : Nat) => encCall callD0)) ∧
  okPipe
  (decL decCall
  (AVal.list false m2 fun (i : Nat) =>
  encCall
  ((parV
  (AVal.list false (wordsOf s).length fun (i : Nat) =>
  encWd 0 ((wordsOf s).getD i wd0))
  0).getD
  i callD0))) ∧
  okPipe
  (decL decCall
  (AVal.list false 0 fun (i : Nat) => encCall callD0))) then
  k
  (Out.ret
  (AVal.bool
  (bif
  bif c5 then
  IntKind.i64.wrap (wdErr l3 + parE (AVal.list true 0 fun (x : Nat) => []) 0) == 0
  else false then
  pipeEq
  (decL decCall
  (AVal.list false m2 fun (i : Nat) =>
  encCall
  ((parV
  (AVal.list false (wordsOf s).length fun (i : Nat) =>
  encWd 0 ((wordsOf s).getD i wd0))
  0).getD
  i callD0)))
  (decL decCall (AVal.list false 0 fun (i : Nat) => encCall callD0))
  else false))
  [])
  else none
  else none
  else none
  else
  bif
  tst
  (parOkR
  (AVal.list false (wordsOf l3).length fun (i : Nat) =>
  encWd 0
  ((wordsOf
  (printR
  (AVal.list false
  (parV
  (AVal.list false (wordsOf s).length fun (i : Nat) =>
  encWd 0 ((wordsOf s).getD i wd0))
  0).length
  fun (i : Nat) =>
  encCall
  ((parV
  (AVal.list false (wordsOf s).length fun (i : Nat) =>
  encWd 0 ((wordsOf s).getD i wd0))
  0).getD
  i callD0)))).getD
  i wd0)) ∧
  SubL
  [AVal.list false (wordsOf l3).length fun (i : Nat) =>
  encWd 0
  ((wordsOf
  (printR
  (AVal.list false
  (parV
  (AVal.list false (wordsOf s).length fun (i : Nat) =>
  encWd 0 ((wordsOf s).getD i wd0))
  0).length
  fun (i : Nat) =>
  encCall
  ((parV
  (AVal.list false (wordsOf s).length fun (i : Nat) =>
  encWd 0 ((wordsOf s).getD i wd0))
  0).getD
  i callD0)))).getD
  i wd0),
  AVal.int IntKind.i64 0]
  [encWqsR
  (AVal.list false (wordsOf l3).length fun (i : Nat) =>
  encWd 0
  ((wordsOf
  (printR
  (AVal.list false
  (parV
  (AVal.list false (wordsOf s).length fun (i : Nat) =>
  encWd 0 ((wordsOf s).getD i wd0))
  0).length
  fun (i : Nat) =>
  encCall
  ((parV
  (AVal.list false (wordsOf s).length fun (i : Nat) =>
  encWd 0 ((wordsOf s).getD i wd0))
  0).getD
  i callD0)))).getD
  i wd0)),
  AVal.int IntKind.i64 0] ∧
  ([] : Heap) = []) then
  bif c4 then
  bif
  tst
  ((AVal.list false m2 fun (i : Nat) =>
  encCall
  ((parV
  (AVal.list false (wordsOf s).length fun (i : Nat) =>
  encWd 0 ((wordsOf s).getD i wd0))
  0).getD
  i callD0)) =
  encPipe false
  (decL decCall
  (AVal.list false m2 fun (i : Nat) =>
  encCall
  ((parV
  (AVal.list false (wordsOf s).length fun (i : Nat) =>
  encWd 0 ((wordsOf s).getD i wd0))
  0).getD
  i callD0))) ∧
  (AVal.list false
  (parV
  (AVal.list false (wordsOf l3).length fun (i : Nat) =>
  encWd 0
  ((wordsOf
  (printR
  (AVal.list false
  (parV
  (AVal.list false (wordsOf s).length fun (i : Nat) =>
  encWd 0 ((wordsOf s).getD i wd0))
  0).length
  fun (i : Nat) =>
  encCall
  ((parV
  (AVal.list false (wordsOf s).length fun (i : Nat) =>
  encWd 0 ((wordsOf s).getD i wd0))
  0).getD
  i callD0)))).getD
  i wd0))
  0).length
  fun (i : Nat) =>
  encCall
  ((parV
  (AVal.list false
  (wordsOf
  (printR
  (AVal.list false
  (parV
  (AVal.list false (wordsOf s).length fun (i : Nat) =>
  encWd 0 ((wordsOf s).getD i wd0))
  0).length
  fun (i : Nat) =>
  encCall
  ((parV
  (AVal.list false (wordsOf s).length fun (i : Nat) =>
  encWd 0 ((wordsOf s).getD i wd0))
  0).getD
  i callD0)))).length
  fun (i : Nat) =>
  encWd 0
  ((wordsOf
  (printR
  (AVal.list false
  (parV
  (AVal.list false (wordsOf s).length fun (i : Nat) =>
  encWd 0 ((wordsOf s).getD i wd0))
  0).length
  fun (i : Nat) =>
  encCall
  ((parV
  (AVal.list false (wordsOf s).length fun (i : Nat) =>
  encWd 0 ((wordsOf s).getD i wd0))
  0).getD
  i callD0)))).getD
  i wd0))
  0).getD
  i callD0)) =
  encPipe false
  (decL decCall
  (AVal.list false
  (parV
  (AVal.list false (wordsOf l3).length fun (i : Nat) =>
  encWd 0
  ((wordsOf
  (printR
  (AVal.list false
  (parV
  (AVal.list false (wordsOf s).length fun (i : Nat) =>
  encWd 0 ((wordsOf s).getD i wd0))
  0).length
  fun (i : Nat) =>
  encCall
  ((parV
  (AVal.list false (wordsOf s).length fun (i : Nat) =>
  encWd 0 ((wordsOf s).getD i wd0))
  0).getD
  i callD0)))).getD
  i wd0))
  0).length
  fun (i : Nat) =>
  encCall
  ((parV
  (AVal.list false
  (wordsOf
  (printR
  (AVal.list false
  (parV
  (AVal.list false (wordsOf s).length fun (i : Nat) =>
  encWd 0 ((wordsOf s).getD i wd0))
  0).length
  fun (i : Nat) =>
  encCall
  ((parV
  (AVal.list false (wordsOf s).length fun (i : Nat) =>
  encWd 0 ((wordsOf s).getD i wd0))
  0).getD
  i callD0)))).length
  fun (i : Nat) =>
  encWd 0
  ((wordsOf
  (printR
  (AVal.list false
  (parV
  (AVal.list false (wordsOf s).length fun (i : Nat) =>
  encWd 0 ((wordsOf s).getD i wd0))
  0).length
  fun (i : Nat) =>
  encCall
  ((parV
  (AVal.list false (wordsOf s).length
  fun (i : Nat) =>
  encWd 0 ((wordsOf s).getD i wd0))
  0).getD
  i callD0)))).getD
  i wd0))
  0).getD
  i callD0))) ∧
  okPipe
  (decL decCall
  (AVal.list false m2 fun (i : Nat) =>
  encCall
  ((parV
  (AVal.list false (wordsOf s).length fun (i : Nat) =>
  encWd 0 ((wordsOf s).getD i wd0))
  0).getD
  i callD0))) ∧
  okPipe
  (decL decCall
  (AVal.list false
  (parV
  (AVal.list false (wordsOf l3).length fun (i : Nat) =>
  encWd 0
  ((wordsOf
  (printR
  (AVal.list false
  (parV
  (AVal.list false (wordsOf s).length fun (i : Nat) =>
  encWd 0 ((wordsOf s).getD i wd0))
  0).length
  fun (i : Nat) =>
  encCall
  ((parV
  (AVal.list false (wordsOf s).length fun (i : Nat) =>
  encWd 0 ((wordsOf s).getD i wd0))
  0).getD
  i callD0)))).getD
  i wd0))
  0).length
  fun (i : Nat) =>
  encCall
  ((parV
  (AVal.list false
  (wordsOf
  (printR
  (AVal.list false
  (parV
  (AVal.list false (wordsOf s).length fun (i : Nat) =>
  encWd 0 ((wordsOf s).getD i wd0))
  0).length
  fun (i : Nat) =>
  encCall
  ((parV
  (AVal.list false (wordsOf s).length fun (i : Nat) =>
  encWd 0 ((wordsOf s).getD i wd0))
  0).getD
  i callD0)))).length
  fun (i : Nat) =>
  encWd 0
  ((wordsOf
  (printR
  (AVal.list false
  (parV
  (AVal.list false (wordsOf s).length fun (i : Nat) =>
  encWd 0 ((wordsOf s).getD i wd0))
  0).length
  fun (i : Nat) =>
  encCall
  ((parV
  (AVal.list false (wordsOf s).length
  fun (i : Nat) =>
  encWd 0 ((wordsOf s).getD i wd0))
  0).getD
  i callD0)))).getD
  i wd0))
  0).getD
  i callD0)))) then
  k
  (Out.ret
  (AVal.bool
  (bif
  bif c5 then
  IntKind.i64.wrap
  (0 +
  parE
  (AVal.list false (wordsOf l3).length fun (i : Nat) =>
  encWd 0
  ((wordsOf
  (printR
  (AVal.list false
  (parV
  (AVal.list false (wordsOf s).length fun (i : Nat) =>
  encWd 0 ((wordsOf s).getD i wd0))
  0).length
  fun (i : Nat) =>
  encCall
  ((parV
  (AVal.list false (wordsOf s).length fun (i : Nat) =>
  encWd 0 ((wordsOf s).getD i wd0))
  0).getD
  i callD0)))).getD
  i wd0))
  0) ==
  0
  else false then
  pipeEq
  (decL decCall
  (AVal.list false m2 fun (i : Nat) =>
  encCall
  ((parV
  (AVal.list false (wordsOf s).length fun (i : Nat) =>
  encWd 0 ((wordsOf s).getD i wd0))
  0).getD
  i callD0)))
  (decL decCall
  (AVal.list false
  (parV
  (AVal.list false (wordsOf l3).length fun (i : Nat) =>
  encWd 0
  ((wordsOf
  (printR
  (AVal.list false
  (parV
  (AVal.list false (wordsOf s).length fun (i : Nat) =>
  encWd 0 ((wordsOf s).getD i wd0))
  0).length
  fun (i : Nat) =>
  encCall
  ((parV
  (AVal.list false (wordsOf s).length fun (i : Nat) =>
  encWd 0 ((wordsOf s).getD i wd0))
  0).getD
  i callD0)))).getD
  i wd0))
  0).length
  fun (i : Nat) =>
  encCall
  ((parV
  (AVal.list false
  (wordsOf
  (printR
  (AVal.list false
  (parV
  (AVal.list false (wordsOf s).length fun (i : Nat) =>
  encWd 0 ((wordsOf s).getD i wd0))
  0).length
  fun (i : Nat) =>
  encCall
  ((parV
  (AVal.list false (wordsOf s).length fun (i : Nat) =>
  encWd 0 ((wordsOf s).getD i wd0))
  0).getD
  i callD0)))).length
  fun (i : Nat) =>
  encWd 0
  ((wordsOf
  (printR
  (AVal.list false
  (parV
  (AVal.list false (wordsOf s).length fun (i : Nat) =>
  encWd 0 ((wordsOf s).getD i wd0))
  0).length
  fun (i : Nat) =>
  encCall
  ((parV
  (AVal.list false (wordsOf s).length fun (i : Nat) =>
  encWd 0 ((wordsOf s).getD i wd0))
  0).getD
  i callD0)))).getD
  i wd0))
  0).getD
  i callD0)))
  else false))
  [])
  else none
  else none
  else none
  else none
  else none
  else none
  else none
  else none) := by kernel_rfl
end Go.Mu
set_option linter.unusedVariables false
set_option linter.unusedSimpArgs false
set_option maxRecDepth 100000
namespace Go.Mu
open Go Go.Proofs
theorem nm_nameB {s : List UInt8} (h : isNm s) : nameB s = true := by
  obtain ⟨h1, h2, h3, h4⟩ := h
  have hc : ∀ n : Fin 256, ((ltr (UInt8.ofNat n) || UInt8.ofNat n == 95) = true → rBadA (UInt8.ofNat n) = false) ∧ (nmC (UInt8.ofNat n) = true → oBad (UInt8.ofNat n) = false) := by decide +kernel
  have hc' : ∀ c : UInt8, ((ltr c || c == 95) = true → rBadA c = false) ∧ (nmC c = true → oBad c = false) := fun c => by
    have := hc ⟨c.toNat, c.toNat_lt⟩
    simpa using this
  cases s with
  | nil => exact absurd rfl h1
  | cons c t =>
    unfold nameB
    rw [nmHit_any, (hc' c).1 h4, dT (show 1 ≤ (c :: t).length ∧ (c :: t).length ≤ 32 from ⟨by simp, h2⟩)]
    have : t.any oBad = false := List.any_eq_false.2 (fun d hd => by rw [(hc' d).2 (h3 d (by simp [hd]))]; decide)
    rw [this]; rfl
theorem run_take : ∀ (t : List UInt8), ∀ c ∈ t.take (runN t), nmC c = true
  | [], c, h => by simp at h
  | d :: t, c, h => by
    rw [runN_cons] at h
    cases hd : nmC d with
    | false => rw [hd] at h; simp at h
    | true =>
      rw [hd, cond_true, List.take_succ_cons] at h
      rcases List.mem_cons.1 h with rfl | h
      · exact hd
      · exact run_take t c h
theorem idE_isNm {t : List UInt8} (h : idE t = 0) : isNm (t.take (runN t)) := by
  have hle := runN_le t
  unfold idE at h
  by_cases h0 : 0 < runN t
  case neg => rw [dF h0] at h; simp at h
  rw [dT h0] at h
  cases hd : dig (t.getD 0 0) with
  | true => rw [hd] at h; simp at h
  | false =>
    rw [hd] at h
    by_cases h32 : runN t ≤ 32
    case neg => rw [dF h32] at h; simp at h
    have hl : (t.take (runN t)).length = runN t := by rw [List.length_take]; omega
    cases t with
    | nil => simp at hle; omega
    | cons c u =>
      have hn : nmC c = true := by rw [← run_pos c u]; exact dT h0
      have e0 : ((c :: u).take (runN (c :: u))).getD 0 0 = c := by
        obtain ⟨m, hm⟩ : ∃ m, runN (c :: u) = m + 1 := ⟨runN (c :: u) - 1, by omega⟩
        rw [hm]; rfl
      refine ⟨fun e => ?_, by omega, run_take _, ?_⟩
      · rw [e] at hl; simp at hl; omega
      · rw [e0, ← beg_dig, hn]
        show (true && !dig c) = true
        rw [show dig c = false from hd]
        rfl
theorem dots_of : ∀ (m : Nat) (t : List UInt8), (dotsM m t).1 = 0 → ∃ l : List (List UInt8), (∀ s ∈ l, isNm s) ∧ t.take (dotsM m t).2 = pathK l
  | 0, t, _ => ⟨[], by simp, by rw [dotsM]; rfl⟩
  | m + 1, t, h => by
    rw [dotsM] at h ⊢
    cases hc : decide (1 < t.length) && t.getD 0 0 == 46 with
    | false => exact ⟨[], by simp, rfl⟩
    | true =>
      rw [hc] at h
      simp only [cond_true] at h ⊢
      rw [Bool.and_eq_true, decide_eq_true_eq, beq_iff_eq] at hc
      cases he : idE (t.drop 1) == 0 with
      | false =>
        rw [he] at h
        simp only [cond_false] at h
        rw [h] at he; cases he
      | true =>
        rw [he] at h
        simp only [cond_true] at h ⊢
        obtain ⟨l, h1, h2⟩ := dots_of m _ h
        refine ⟨(t.drop 1).take (runN (t.drop 1)) :: l, fun s hs => ?_, ?_⟩
        · rcases List.mem_cons.1 hs with rfl | hs
          · exact idE_isNm (by simpa using he)
          · exact h1 s hs
        · rw [pathK_cons, ← h2]
          cases t with
          | nil => simp at hc
          | cons c u =>
            have hc2 : c = 46 := hc.2
            subst hc2
            show (46 :: u).take (1 + runN u + (dotsM m ((46 :: u).drop (1 + runN u))).2) = 46 :: (u.take (runN u) ++ ((46 :: u).drop (1 + runN u)).take (dotsM m ((46 :: u).drop (1 + runN u))).2)
            have ed : (46 :: u).drop (1 + runN u) = u.drop (runN u) := by rw [Nat.add_comm, List.drop_succ_cons]
            rw [ed, show 1 + runN u + (dotsM m (u.drop (runN u))).2 = (runN u + (dotsM m (u.drop (runN u))).2) + 1 by omega, List.take_succ_cons, List.take_add]
def WF (k : Int) (t : List UInt8) : Prop :=
  (k = 1 ∧ isNm t) ∨ (k = 2 ∧ ∃ l : List (List UInt8), (∀ s ∈ l, isNm s) ∧ t = 46 :: Lib.join l [46]) ∨ (k = 3 ∧ ∃ (nm : List UInt8) (l : List (List UInt8)), (nm = [] ∨ isNm nm) ∧ (∀ s ∈ l, isNm s) ∧ t = 36 :: (nm ++ pathK l)) ∨
  (k = 4 ∧ t ≠ [] ∧ (numM t).2 = 0) ∨ (k = 5 ∧ t.length ≤ 4096) ∨ (k = 6 ∧ t ≠ [])
def wtK (k : Int) (t : List UInt8) : Nat := if k = 5 then t.length + 2 else t.length
theorem strQ_wt (b : Nat) : ∀ (n : Nat) (t acc : List UInt8) (i : Nat), t.length ≤ n → (strQ b t acc i).e = 0 → (strQ b t acc i).text.length ≤ 4096 ∧ (strQ b t acc i).text.length + i + 1 ≤ (strQ b t acc i).to + acc.length
  | n, [], acc, i, _, h => by cases h
  | n, [c], acc, i, _, h => by
    rw [strQ] at h ⊢
    cases h1 : c == 34 with
    | true =>
      rw [h1] at h
      by_cases h2 : acc.length ≤ 4096
      · rw [dT h2]; simp only [cond_true]; exact ⟨h2, by omega⟩
      · rw [dF h2] at h; cases h
    | false =>
      rw [h1] at h
      cases h2 : c == 92 || c == 10 <;> rw [h2] at h <;> cases h
  | 0, c :: d :: u, acc, i, h, _ => by simp at h
  | n + 1, c :: d :: u, acc, i, hn, h => by
    simp only [List.length_cons] at hn
    rw [strQ] at h ⊢
    cases h1 : c == 34 with
    | true =>
      rw [h1] at h
      by_cases h2 : acc.length ≤ 4096
      · rw [dT h2]; simp only [cond_true]; exact ⟨h2, by omega⟩
      · rw [dF h2] at h; cases h
    | false =>
      rw [h1] at h
      simp only [cond_false] at h ⊢
      cases h2 : c == 92 && decide (escI d ≥ 0) with
      | true =>
        rw [h2] at h
        simp only [cond_true] at h ⊢
        have := strQ_wt b n u (acc ++ [escO d]) (i + 2) (by omega) h
        rw [List.length_append] at this
        refine ⟨this.1, ?_⟩
        have := this.2
        simp only [List.length_cons, List.length_nil] at this
        omega
      | false =>
        rw [h2] at h
        simp only [cond_false] at h ⊢
        cases h3 : c == 92 || c == 10 with
        | true => rw [h3] at h; cases h
        | false =>
          rw [h3] at h
          simp only [cond_false] at h ⊢
          have := strQ_wt b n (d :: u) (acc ++ [c]) (i + 1) (by simp only [List.length_cons]; omega) h
          rw [List.length_append] at this
          refine ⟨this.1, ?_⟩
          have := this.2
          simp only [List.length_cons, List.length_nil] at this
          omega
end Go.Mu
set_option linter.unusedVariables false
set_option linter.unusedSimpArgs false
set_option maxRecDepth 100000
namespace Go.Mu
open Go Go.Proofs
theorem hd_cons {t : List UInt8} {c : UInt8} (ht : t ≠ []) (h : (t.getD 0 0 == c) = true) : ∃ u, t = c :: u := by
  cases t with
  | nil => exact absurd rfl ht
  | cons d u =>
    have : d = c := by simpa using h
    exact ⟨u, by rw [this]⟩
theorem one_wf {t : List UInt8} (ht : t ≠ []) (he : (oneM t).e = 0) : WF (oneM t).kind (oneM t).text ∧ 1 ≤ wtK (oneM t).kind (oneM t).text ∧ wtK (oneM t).kind (oneM t).text ≤ (oneM t).len := by
  obtain ⟨l1, l2⟩ := one_len ht he
  have hlt : 0 < t.length := List.length_pos_iff.2 ht
  have fin : ∀ (k : Int) (r : Int × Nat), k ≠ 5 → oneM t = cutR k t r → (r.1 = 0 → 1 ≤ r.2 → r.2 ≤ t.length → WF k (t.take r.2)) → WF (oneM t).kind (oneM t).text ∧ 1 ≤ wtK (oneM t).kind (oneM t).text ∧ wtK (oneM t).kind (oneM t).text ≤ (oneM t).len := by
    intro k r hk e hw
    rw [e] at l1 l2 he ⊢
    simp only [cutR] at l1 l2 he ⊢
    refine ⟨hw he l1 l2, ?_⟩
    unfold wtK
    rw [if_neg hk, List.length_take]
    omega
  cases b1 : ltr (t.getD 0 0) || t.getD 0 0 == 95 with
  | true => exact fin 1 (idE t, runN t) (by decide) (by unfold oneM; rw [b1]; rfl) (fun h _ _ => .inl ⟨rfl, idE_isNm h⟩)
  | false =>
  cases b2 : t.getD 0 0 == 46 with
  | true =>
    refine fin 2 (dotM t) (by decide) (by unfold oneM; rw [b1, b2]; rfl) (fun h h1 _ => .inr (.inl ⟨rfl, ?_⟩))
    obtain ⟨u, rfl⟩ := hd_cons ht b2
    unfold dotM at h h1 ⊢
    cases hd : hd1 (46 :: u) with
    | false => exact ⟨[], by simp, rfl⟩
    | true =>
      rw [hd, cond_true] at h h1
      obtain ⟨l, g1, g2⟩ := dots_of _ _ h
      cases l with
      | nil =>
        have := congrArg List.length g2
        rw [List.length_take] at this
        simp only [pathK, List.map_nil, List.flatten_nil, List.length_nil, List.length_cons] at this h1
        omega
      | cons s l => exact ⟨s :: l, g1, by rw [cond_true, g2, pathK_cons, join_pathK]⟩
  | false =>
  cases b3 : t.getD 0 0 == 36 with
  | true =>
    refine fin 3 (dollarM t) (by decide) (by unfold oneM; rw [b1, b2, b3]; rfl) (fun h h1 _ => .inr (.inr (.inl ⟨rfl, ?_⟩)))
    obtain ⟨u, rfl⟩ := hd_cons ht b3
    unfold dollarM at h ⊢
    cases hd : hd1 (36 :: u) with
    | false =>
      rw [hd, cond_false] at h
      obtain ⟨l, g1, g2⟩ := dots_of _ _ h
      refine ⟨[], l, .inl rfl, g1, ?_⟩
      rw [cond_false]
      show (36 :: u).take (1 + (dotsM (36 :: u).length ((36 :: u).drop 1)).2) = _
      rw [Nat.add_comm, List.take_succ_cons, List.nil_append, ← g2]
      rfl
    | true =>
      rw [hd, cond_true] at h
      cases hi : idE ((36 :: u).drop 1) == 0 with
      | false =>
        rw [hi, cond_false] at h
        simp only at h
        rw [h] at hi; cases hi
      | true =>
        rw [hi, cond_true] at h
        obtain ⟨l, g1, g2⟩ := dots_of _ _ h
        refine ⟨u.take (runN u), l, .inr (idE_isNm (by simpa using hi)), g1, ?_⟩
        rw [cond_true, cond_true, ← g2]
        have ed : (36 :: u).drop (1 + runN u) = u.drop (runN u) := by rw [Nat.add_comm, List.drop_succ_cons]
        show (36 :: u).take (1 + runN u + (dotsM (36 :: u).length ((36 :: u).drop (1 + runN u))).2) = 36 :: (u.take (runN u) ++ ((36 :: u).drop (1 + runN u)).take (dotsM (36 :: u).length ((36 :: u).drop (1 + runN u))).2)
        rw [ed, show 1 + runN u + (dotsM (36 :: u).length (u.drop (runN u))).2 = (runN u + (dotsM (36 :: u).length (u.drop (runN u))).2) + 1 by omega, List.take_succ_cons, List.take_add]
  | false =>
  have ne_take : ∀ n, 1 ≤ n → t.take n ≠ [] := fun n hn e => by
    have := congrArg List.length e
    rw [List.length_take, List.length_nil] at this
    omega
  cases b4 : t.getD 0 0 == 45 || dig (t.getD 0 0) with
  | true =>
    refine fin 4 (digM t) (by decide) (by unfold oneM; rw [b1, b2, b3, b4]; rfl) (fun h h1 _ => .inr (.inr (.inr (.inl ⟨rfl, ne_take _ h1, ?_⟩))))
    unfold digM at h ⊢
    simp only at h ⊢
    cases h4 : (numM (t.take (1 + dgN (t.drop 1)))).2 == 4 with
    | true => rw [h4] at h; cases h
    | false =>
      rw [h4, cond_false] at h
      cases h0 : (numM (t.take (1 + dgN (t.drop 1)))).2 == 0 with
      | true => simpa using h0
      | false => rw [h0] at h; cases h
  | false =>
  cases b5 : t.getD 0 0 == 34 with
  | true =>
    have e : oneM t = ⟨(strQ 0 (t.drop 1) [] 1).e, (strQ 0 (t.drop 1) [] 1).off, 5, (strQ 0 (t.drop 1) [] 1).text, (strQ 0 (t.drop 1) [] 1).to⟩ := by unfold oneM; rw [b1, b2, b3, b4, b5]; rfl
    rw [e] at he ⊢
    obtain ⟨s1, s2⟩ := strQ_wt 0 _ (t.drop 1) [] 1 (Nat.le_refl _) he
    rw [List.length_nil] at s2
    refine ⟨.inr (.inr (.inr (.inr (.inl ⟨rfl, s1⟩)))), ?_⟩
    unfold wtK
    simp only [if_true]
    omega
  | false =>
  cases b6 : [58, 61].isPrefixOf t with
  | true => exact fin 6 (0, 2) (by decide) (by unfold oneM; rw [b1, b2, b3, b4, b5, b6]; rfl) (fun h h1 _ => .inr (.inr (.inr (.inr (.inr ⟨rfl, ne_take _ h1⟩)))))
  | false => exact fin 6 (bif t.getD 0 0 == 124 then 0 else 33, 1) (by decide) (by unfold oneM; rw [b1, b2, b3, b4, b5, b6]; rfl) (fun h h1 _ => .inr (.inr (.inr (.inr (.inr ⟨rfl, ne_take _ h1⟩)))))
def wtW (w : WdD) : Nat := wtK w.kind w.text
def WFW (w : WdD) : Prop := WF w.kind w.text ∧ 1 ≤ wtW w
theorem wdsM_wf : ∀ (m : Nat) (t : List UInt8) (p : Nat), (∀ w ∈ (wdsM m t p).1, WFW w) ∧ ((wdsM m t p).1.map wtW).sum ≤ t.length
  | 0, t, p => ⟨fun w hw => (by cases hw), Nat.zero_le _⟩
  | m + 1, t, p => by
    rw [wdsM]
    cases h0 : t == [] with
    | true => exact ⟨fun w hw => (by cases hw), Nat.zero_le _⟩
    | false =>
      have ht : t ≠ [] := by simpa using h0
      have hl : 0 < t.length := List.length_pos_iff.2 ht
      simp only [cond_false]
      cases hb : blk (t.getD 0 0) with
      | true =>
        simp only [cond_true]
        obtain ⟨h1, h2⟩ := wdsM_wf m (t.drop 1) (p + 1)
        rw [List.length_drop] at h2
        exact ⟨h1, by omega⟩
      | false =>
        simp only [cond_false]
        cases he : (oneM t).e == 0 with
        | false => exact ⟨fun w hw => (by cases hw), Nat.zero_le _⟩
        | true =>
          simp only [cond_true]
          obtain ⟨h1, h2⟩ := wdsM_wf m (t.drop (oneM t).len) (p + (oneM t).len)
          obtain ⟨o1, o2, o3⟩ := one_wf ht (by simpa using he)
          have l2 := (one_len ht (by simpa using he)).2
          rw [List.length_drop] at h2
          refine ⟨fun w hw => ?_, ?_⟩
          · rcases List.mem_cons.1 hw with rfl | hw
            · exact ⟨o1, o2⟩
            · exact h1 w hw
          · rw [List.map_cons, List.sum_cons]
            have : wtW ⟨(oneM t).kind, (oneM t).text, p⟩ = wtK (oneM t).kind (oneM t).text := rfl
            omega
theorem wtW_text (w : WdD) : w.text.length ≤ wtW w := by unfold wtW wtK; split <;> omega
theorem sumL_pathK : ∀ l : List (List UInt8), sumL l = (pathK l).length
  | [] => rfl
  | s :: l => by
    have := sumL_pathK l
    rw [pathK_cons, List.length_cons, List.length_append, ← this]
    simp only [sumL, List.map_cons, List.sum_cons]
    omega
theorem argB_mk {a : ArgD} (h1 : ∀ s ∈ a.path, isNm s) (h2 : a.path.length ≤ 16) (h3 : 1 ≤ a.kind ∧ a.kind ≤ 7) (h4 : (a.kind = 2 ∧ isNm a.name) ∨ a.name = []) (h5 : a.kind ≤ 2 ∨ a.path = []) (h6 : a.kind = 3 ∨ a.int = 0)
    (h7 : a.kind = 4 ∨ a.text = []) (h8 : a.text.length ≤ 4096) : argB a = true := by
  unfold argB pBad pArgT
  simp only [bif_and, bif_or, Bool.and_eq_true, Bool.or_eq_true, decide_eq_true_eq, Bool.not_eq_true', List.any_eq_false, beq_iff_eq]
  refine ⟨⟨fun s hs => by rw [nm_nameB (h1 s hs)]; decide, h2⟩, ⟨⟨⟨⟨⟨h3, ?_⟩, ?_⟩, h6⟩, h7⟩, by omega⟩⟩
  · rcases h4 with ⟨k, h⟩ | h
    · exact .inl ⟨k, .inr (nm_nameB h)⟩
    · exact .inr h
  · rcases h5 with h | h
    · exact .inl h
    · exact .inr (by rw [h]; rfl)
theorem arg_wf {w : WdD} (hw : WFW w) (he : argE w = 0) : argB (argA w) = true ∧ inR (argA w) ∧ 2 * (aW (argA w) + 1) ≤ 3 * wtW w ∧ aW (argA w) ≤ w.text.length := by
  obtain ⟨hw, hp⟩ := hw
  obtain ⟨k, t, p⟩ := w
  unfold wtW at hp ⊢
  simp only at hw hp ⊢
  have r0 : ∀ (kd : Int) (nm : List UInt8) (pa : List (List UInt8)) (tx : List UInt8), inR ⟨kd, nm, true, pa, 0, tx⟩ := fun _ _ _ _ => ⟨by show -9223372036854775808 ≤ (0 : Int); decide, by show (0 : Int) ≤ 9223372036854775807; decide⟩
  have nC : ∀ {k : Int}, k ≠ 1 → isC ⟨k, t, p⟩ = false := fun h => isC_no (w := ⟨_, t, p⟩) h
  rcases hw with ⟨rfl, hn⟩ | ⟨rfl, l, h1, rfl⟩ | ⟨rfl, nm, l, h0, h1, rfl⟩ | ⟨rfl, h0, h1⟩ | ⟨rfl, h0⟩ | ⟨rfl, h0⟩
  · -- a constant
    cases hc : isC ⟨1, t, p⟩ with
    | false => unfold argE at he; rw [hc] at he; cases he
    | true =>
      have ha : argA ⟨1, t, p⟩ = ⟨5 + constM t, [], true, [], 0, []⟩ := by unfold argA; rw [hc]; rfl
      have hcc : constM t ≥ 0 := by
        unfold isC at hc
        simpa using hc
      have := (const_lt t).2
      rw [ha]
      refine ⟨argB_mk (by simp) (by simp) ⟨by show 1 ≤ 5 + constM t; omega, by show 5 + constM t ≤ 7; omega⟩ (.inr rfl) (.inr rfl) (.inr rfl) (.inr rfl) (by simp), r0 _ _ _ _, ?_, Nat.zero_le _⟩
      simp only [aW, sumL, List.map_nil, List.sum_nil, List.length_nil]
      omega
  · -- a path
    have hs := steps_join h1
    have ha : argA ⟨2, 46 :: Lib.join l [46], p⟩ = ⟨1, [], true, l, 0, []⟩ := by unfold argA; rw [nC (by decide)]; simp only [cond_false, hs]; rfl
    have h16 : l.length ≤ 16 := by
      unfold argE at he
      rw [nC (by decide)] at he
      simp only [cond_false] at he
      cases hb : stepsB (46 :: Lib.join l [46]) with
      | true => unfold stepsB at hb; rw [hs] at hb; simpa using hb
      | false => rw [hb] at he; cases he
    rw [ha]
    have hlen : (46 :: Lib.join l [46]).length = bif l.isEmpty then 1 else (pathK l).length := by
      cases l with
      | nil => rfl
      | cons s l => rw [join_pathK, pathK_cons]; rfl
    have hle : sumL l + 0 ≤ (46 :: Lib.join l [46]).length ∧ 2 * (sumL l + 1) ≤ 3 * (46 :: Lib.join l [46]).length := by
      rw [hlen, sumL_pathK]
      cases l with
      | nil => exact ⟨Nat.zero_le _, by decide⟩
      | cons s l =>
        have := List.length_pos_iff.2 (h1 s (by simp)).1
        rw [pathK_cons]
        simp only [List.isEmpty_cons, cond_false, List.length_cons, List.length_append]
        omega
    refine ⟨argB_mk h1 h16 ⟨by show (1 : Int) ≤ 1; decide, by show (1 : Int) ≤ 7; decide⟩ (.inr rfl) (.inl (by show (1 : Int) ≤ 2; decide)) (.inr rfl) (.inr rfl) (by simp), r0 _ _ _ _, ?_, ?_⟩
    · unfold aW wtK
      rw [if_neg (by decide)]
      simp only [List.length_nil]
      omega
    · unfold aW
      simp only [List.length_nil]
      omega
  · -- a variable
    have h46 : (46 : UInt8) ∉ nm := by
      rcases h0 with rfl | h
      · simp
      · exact isNm_46 h
    obtain ⟨c1, c2⟩ := cut_var h46 h1
    have ed : (36 :: (nm ++ pathK l)).drop 1 = nm ++ pathK l := rfl
    have ha : argA ⟨3, 36 :: (nm ++ pathK l), p⟩ = ⟨2, nm, true, l, 0, []⟩ := by
      unfold argA
      rw [nC (by decide)]
      simp only [cond_false, ed, c1, c2]
      rfl
    have h16 : l.length ≤ 16 := by
      unfold argE at he
      rw [nC (by decide)] at he
      simp only [cond_false, ed] at he
      cases hb : stepsB (varRest (nm ++ pathK l)) with
      | true => unfold stepsB at hb; rw [c2] at hb; simpa using hb
      | false => rw [hb] at he; cases he
    rw [ha]
    refine ⟨argB_mk h1 h16 ⟨by show (1 : Int) ≤ 2; decide, by show (2 : Int) ≤ 7; decide⟩ (h0.elim .inr (fun h => .inl ⟨rfl, h⟩)) (.inl (by show (2 : Int) ≤ 2; decide)) (.inr rfl) (.inr rfl) (by simp), r0 _ _ _ _, ?_, ?_⟩
    · unfold aW wtK
      rw [if_neg (by decide), sumL_pathK]
      simp only [List.length_nil, List.length_cons, List.length_append]
      omega
    · unfold aW
      rw [sumL_pathK]
      simp only [List.length_nil, List.length_cons, List.length_append]
      omega
  · -- a number
    have ha : argA ⟨4, t, p⟩ = ⟨3, [], true, [], (numM t).1, []⟩ := by unfold argA; rw [nC (by decide)]; rfl
    have hr : -9223372036854775808 ≤ (numM t).1 ∧ (numM t).1 ≤ 9223372036854775807 := by
      have g1 := numL_le (t.drop 1) 0 (by omega)
      have g2 := numL_le t 0 (by omega)
      have z : -9223372036854775808 ≤ (0 : Int) ∧ (0 : Int) ≤ 9223372036854775807 := by decide
      unfold numM
      cases [45].isPrefixOf t with
      | true =>
        simp only [cond_true]
        cases t.drop 1 == []
        · simp only [cond_false]
          cases (t.drop 1).any ndC || (t.drop 1).getD 0 0 == 48
          · simp only [cond_false]
            cases (numL 0 (t.drop 1)).1
            · simp only [cond_false]; omega
            · exact z
          · exact z
        · exact z
      | false =>
        simp only [cond_false]
        cases t == []
        · simp only [cond_false]
          cases t.any ndC || (t.getD 0 0 == 48 && decide (1 < t.length))
          · simp only [cond_false]
            cases (numL 0 t).1
            · simp only [cond_false]
              by_cases hb : (numL 0 t).2 > 9223372036854775807
              · rw [dT hb]; exact z
              · rw [dF hb]; simp only [cond_false]; omega
            · exact z
          · exact z
        · exact z
    rw [ha]
    refine ⟨argB_mk (by simp) (by simp) ⟨by show (1 : Int) ≤ 3; decide, by show (3 : Int) ≤ 7; decide⟩ (.inr rfl) (.inr rfl) (.inl rfl) (.inr rfl) (by simp), hr, ?_, ?_⟩
    · simp only [aW, sumL, List.map_nil, List.sum_nil, List.length_nil]
      omega
    · simp only [aW, sumL, List.map_nil, List.sum_nil, List.length_nil]
      omega
  · -- a text
    have ha : argA ⟨5, t, p⟩ = ⟨4, [], true, [], 0, t⟩ := by unfold argA; rw [nC (by decide)]; rfl
    rw [ha]
    refine ⟨argB_mk (by simp) (by simp) ⟨by show (1 : Int) ≤ 4; decide, by show (4 : Int) ≤ 7; decide⟩ (.inr rfl) (.inr rfl) (.inr rfl) (.inl rfl) h0, r0 _ _ _ _, ?_, ?_⟩
    · simp only [aW, sumL, wtK, List.map_nil, List.sum_nil, List.length_nil, if_true]
      omega
    · simp only [aW, sumL, List.map_nil, List.sum_nil, List.length_nil]
      omega
  · unfold argE at he
    rw [nC (by decide)] at he
    cases he
def ArgW (n : Nat) (a : ArgD) : Prop := argB a = true ∧ inR a ∧ aW a ≤ n
theorem args_wf (n : Nat) : ∀ (l : List WdD), (∀ w ∈ l, WFW w ∧ w.text.length ≤ n) → (argsM l).2 = none → (∀ a ∈ (argsM l).1, ArgW n a) ∧ 2 * ((argsM l).1.map (fun a => aW a + 1)).sum ≤ 3 * (l.map wtW).sum
  | [], _, _ => ⟨fun a ha => (by cases ha), Nat.le_refl _⟩
  | w :: l, h, he => by
    rw [argsM] at he ⊢
    cases hw : argE w == 0 with
    | false => rw [hw] at he; cases he
    | true =>
      rw [hw] at he
      simp only [cond_true] at he ⊢
      obtain ⟨h1, h2⟩ := args_wf n l (fun x hx => h x (by simp [hx])) he
      obtain ⟨g1, g2, g3, g4⟩ := arg_wf (h w (by simp)).1 (by simpa using hw)
      have g5 := (h w (by simp)).2
      refine ⟨fun a ha => ?_, ?_⟩
      · rcases List.mem_cons.1 ha with rfl | ha
        · exact ⟨g1, g2, by omega⟩
        · exact h1 a ha
      · simp only [List.map_cons, List.sum_cons]
        omega
theorem call_wf {n : Nat} {w : WdD} {r : List WdD} {ah : Bool} (h : ∀ x ∈ w :: r, WFW x ∧ x.text.length ≤ n) (he : calE w r ah = none) : callB (calC w r) ah = true ∧ (∀ a ∈ (calC w r).args, ArgW n a) ∧ 2 * cW (calC w r) ≤ 3 * ((w :: r).map wtW).sum ∧ (calC w r).name.length ≤ n := by
  obtain ⟨hw, hl⟩ := h w (by simp)
  have ht := wtW_text w
  unfold calE at he
  cases hn : isName w with
  | true =>
    rw [hn] at he
    simp only [cond_true] at he
    cases ha : (ar w.text).2.2 with
    | false => rw [ha] at he; cases he
    | true =>
      rw [ha] at he
      simp only [Bool.not_true, cond_false] at he
      cases hx : (argsM r).2 with
      | some e => rw [hx] at he; cases he
      | none =>
        rw [hx] at he
        simp only at he
        obtain ⟨h1, h2⟩ := args_wf n r (fun x hx => h x (by simp [hx])) hx
        have hc : calC w r = ⟨w.text, false, (argsM r).1⟩ := by unfold calC; rw [hn]; rfl
        rw [hc]
        refine ⟨?_, h1, ?_, hl⟩
        · unfold callB cBad
          have hb : ((⟨w.text, false, (argsM r).1⟩ : CallD).args.any fun a => !argB a) = false := List.any_eq_false.2 (fun a ha => by rw [(h1 a ha).1]; decide)
          rw [hb, Bool.not_false, Bool.true_and]
          have hne : (w.text == []) = false := by
            cases ht : w.text with
            | nil => rw [ht] at ha; exact absurd ha (by decide)
            | cons c t => rfl
          show cond (w.text == []) _ ((ar w.text).2.2 && _ && _) = true
          rw [hne, cond_false, ha, Bool.true_and]
          have hcount : cCnt ⟨w.text, false, (argsM r).1⟩ ah = (((argsM r).1.length + (bif ah then 1 else 0) : Nat) : Int) := by
            unfold cCnt
            cases ah
            · simp
            · simp
          rw [hcount]
          by_cases g1 : (ar w.text).1 ≤ (((argsM r).1.length + (bif ah then 1 else 0) : Nat) : Int)
          · by_cases g2 : (((argsM r).1.length + (bif ah then 1 else 0) : Nat) : Int) ≤ (ar w.text).2.1
            · rw [dT g1, dT g2]; rfl
            · rw [dF g2, Bool.and_false] at he; cases he
          · have g1' : ¬ (((argsM r).1.length + (bif ah then 1 else 0) : Nat) : Int) ≥ (ar w.text).1 := g1
            rw [dF g1', Bool.false_and] at he; cases he
        · unfold cW
          simp only [List.map_cons, List.sum_cons]
          omega
  | false =>
    rw [hn] at he
    simp only [cond_false] at he
    cases ah with
    | true => cases he
    | false =>
      simp only [cond_false] at he
      cases hE : argE w == 0 with
      | false => rw [hE] at he; cases he
      | true =>
        rw [hE, cond_true] at he
        cases r with
        | cons x r => cases he
        | nil =>
          obtain ⟨g1, g2, g3, g4⟩ := arg_wf hw (by simpa using hE)
          have hc : calC w [] = ⟨[], false, [argA w]⟩ := by unfold calC; rw [hn]; rfl
          rw [hc]
          refine ⟨?_, fun a ha => ?_, ?_, Nat.zero_le _⟩
          · unfold callB cBad
            simp only [List.any_cons, List.any_nil, g1]
            rfl
          · simp only [List.mem_cons, List.not_mem_nil, or_false] at ha
            subst ha
            exact ⟨g1, g2, by omega⟩
          · unfold cW
            simp only [List.map_cons, List.sum_cons, List.map_nil, List.sum_nil, List.length_nil]
            omega
def CallW (n : Nat) (c : CallD) : Prop := (∀ a ∈ c.args, ArgW n a) ∧ c.name.length ≤ n
theorem pPos_cons {w : WdD} {l : List WdD} (h : (w.kind == 6) = false) : pPos (w :: l) = pPos l + 1 := by
  unfold pPos
  rw [List.findIdx_cons]
  have : isSig w = false := h
  rw [this]; rfl
theorem sum_take_drop (f : WdD → Nat) : ∀ (l : List WdD) (p : Nat), p < l.length → ((l.take p).map f).sum + f (l.getD p wd0) + ((l.drop (p + 1)).map f).sum = (l.map f).sum
  | [], p, h => by simp at h
  | w :: l, 0, h => by simp
  | w :: l, p + 1, h => by
    have := sum_take_drop f l p (by simpa using h)
    simp only [List.take_succ_cons, List.drop_succ_cons, List.map_cons, List.sum_cons, List.getD_cons_succ]
    omega
theorem par_wf (n : Nat) : ∀ (m : Nat) (l : List WdD) (cs : List CallD) (at_ : Int) (cs' : List CallD), l ≠ [] → l.length ≤ m → (∀ x ∈ l, WFW x ∧ x.text.length ≤ n) → parM m l cs at_ = (none, cs') →
    ∃ c q, cs' = cs ++ c :: q ∧ callB c (decide (0 < cs.length)) = true ∧ (∀ d ∈ q, callB d true = true) ∧ cs'.length ≤ 16 ∧ (∀ d ∈ c :: q, CallW n d) ∧ 2 * pW (c :: q) ≤ 3 * (l.map wtW).sum + 2
  | 0, l, cs, at_, cs', hne, hm, _, _ => absurd (List.eq_nil_of_length_eq_zero (by omega)) hne
  | m + 1, [], cs, at_, cs', hne, _, _, _ => absurd rfl hne
  | m + 1, w :: l, cs, at_, cs', _, hm, hw, h => by
    rw [parM] at h
    have hh : hdW (w :: l) = w := rfl
    rw [hh] at h
    cases h6 : w.kind == 6 with
    | true => rw [h6] at h; cases h
    | false =>
    rw [h6, cond_false] at h
    have hp := pPos_cons (l := l) h6
    have hE : paE (w :: l) (decide (0 < cs.length)) = calE w (l.take (pPos l)) (decide (0 < cs.length)) := by unfold paE; rw [hp]; rfl
    have hC : paC (w :: l) = calC w (l.take (pPos l)) := by unfold paC; rw [hp]; rfl
    rw [hE, hC, hp] at h
    cases he : calE w (l.take (pPos l)) (decide (0 < cs.length)) with
    | some e => rw [he] at h; cases h
    | none =>
    rw [he] at h
    simp only at h
    by_cases h16 : cs.length < 16
    case neg => rw [dF h16] at h; cases h
    rw [dT h16, Bool.not_true, cond_false] at h
    obtain ⟨g1, g2, g3, g4⟩ := call_wf (n := n) (fun x hx => hw x (by
      rcases List.mem_cons.1 hx with rfl | hx
      · simp
      · exact List.mem_cons_of_mem _ (List.mem_of_mem_take hx))) he
    rw [List.map_cons, List.sum_cons] at g3
    cases hend : pPos l + 1 == (w :: l).length with
    | true =>
      rw [hend, cond_true, Prod.mk.injEq] at h
      have hl : pPos l = l.length := by
        have := beq_iff_eq.1 hend
        rw [List.length_cons] at this; omega
      have e := h.2
      subst e
      refine ⟨calC w (l.take (pPos l)), [], rfl, g1, fun d hd => (by cases hd), by rw [List.length_append, List.length_cons, List.length_nil]; omega, fun d hd => ?_, ?_⟩
      · simp only [List.mem_cons, List.not_mem_nil, or_false] at hd
        subst hd; exact ⟨g2, g4⟩
      · rw [hl, List.take_length] at g3
        unfold pW
        simp only [List.map_cons, List.sum_cons, List.map_nil, List.sum_nil]
        rw [hl, List.take_length]
        omega
    | false =>
    rw [hend, cond_false] at h
    cases hb : !((w :: l).getD (pPos l + 1) wd0).text == [124] with
    | true => rw [hb] at h; cases h
    | false =>
    rw [hb, cond_false] at h
    by_cases hlt : pPos l + 1 + 1 < (w :: l).length
    case neg => rw [dF hlt] at h; cases h
    rw [dT hlt, Bool.not_true, cond_false] at h
    rw [List.length_cons] at hlt hm
    have hd : (w :: l).drop (pPos l + 1 + 1) = l.drop (pPos l + 1) := rfl
    rw [hd] at h
    have hdl : (l.drop (pPos l + 1)).length = l.length - (pPos l + 1) := List.length_drop
    obtain ⟨d, q, i1, i2, i3, i4, i5, i6⟩ := par_wf n m (l.drop (pPos l + 1)) (cs ++ [calC w (l.take (pPos l))]) at_ cs' (fun e => by rw [e] at hdl; simp at hdl; omega) (by omega) (fun x hx => hw x (List.mem_cons_of_mem _ (List.mem_of_mem_drop hx))) h
    have hpos : decide (0 < (cs ++ [calC w (l.take (pPos l))]).length) = true := dT (by rw [List.length_append]; show 0 < _ + 1; omega)
    rw [hpos] at i2
    have hsum := sum_take_drop wtW l (pPos l) (by omega)
    have hbar : 1 ≤ wtW (l.getD (pPos l) wd0) := by
      have hm2 : l.getD (pPos l) wd0 ∈ l := by
        rw [List.getD_eq_getElem?_getD, List.getElem?_eq_getElem (show pPos l < l.length by omega)]
        exact List.getElem_mem _
      exact (hw _ (List.mem_cons_of_mem _ hm2)).1.2
    refine ⟨calC w (l.take (pPos l)), d :: q, by rw [i1]; simp, g1, fun e he => ?_, i4, fun e he => ?_, ?_⟩
    · rcases List.mem_cons.1 he with rfl | he
      · exact i2
      · exact i3 e he
    · rcases List.mem_cons.1 he with rfl | he
      · exact ⟨g2, g4⟩
      · exact i5 e he
    · rw [List.map_cons, List.sum_cons]
      unfold pW at i6 ⊢
      rw [List.map_cons, List.sum_cons]
      omega
theorem pipeB_mk {c : CallD} {q : List CallD} (h1 : callB c false = true) (h2 : ∀ d ∈ q, callB d true = true) (h3 : (c :: q).length ≤ 16) : pipeB (c :: q) = true := by
  unfold pipeB
  rw [dT (show 1 ≤ (c :: q).length ∧ (c :: q).length ≤ 16 from ⟨by simp, h3⟩), Bool.true_and]
  have : (List.range (c :: q).length).any (cHit (c :: q)) = false := List.any_eq_false.2 (fun i hi => by
    unfold cHit
    cases i with
    | zero => rw [List.getD_cons_zero, show decide (0 < 0) = false from rfl, h1]; decide
    | succ i =>
      have hi' : i < q.length := by simpa using hi
      rw [List.getD_cons_succ, List.getD_eq_getElem?_getD, List.getElem?_eq_getElem hi', Option.getD_some, dT (by omega), h2 _ (List.getElem_mem _)]
      decide)
  rw [this]; rfl
theorem okPW_of' {l : List CallD} (h : pW l ≤ 4194304) (hi : ∀ c ∈ l, CallW 1048576 c) : okPW l := by
  have hl := printP_len l
  have h1 := len_sum cW l
  unfold pW at h hl
  refine ⟨by omega, fun c hc => ?_, by omega⟩
  have h2 := mem_sum (fun c => cW c + 1) l c hc
  have h3 := callW_len c
  have h4 := len_sum aW c.args
  have h5 : (c.args.map (fun a => aW a + 1)).sum ≤ cW c := by unfold cW; omega
  exact ⟨by omega, fun a ha => okW_of ((hi c hc).1 a ha).2.2 ((hi c hc).1 a ha).2.1, by omega⟩
theorem okPipe_of {l : List CallD} (h : pW l ≤ 4194304) (hi : ∀ c ∈ l, CallW 1048576 c) : okPipe l := by
  have h1 := len_sum cW l
  unfold pW at h
  refine ⟨by omega, fun c hc => ?_⟩
  have h2 := mem_sum (fun c => cW c + 1) l c hc
  have h4 := len_sum aW c.args
  have h5 : (c.args.map (fun a => aW a + 1)).sum ≤ cW c := by unfold cW; omega
  obtain ⟨g1, g2⟩ := hi c hc
  refine ⟨by omega, fun a ha => ?_, by omega⟩
  have g3 := (g1 a ha).2.2
  unfold aW at g3
  have g4 := sumL_len a.path
  refine ⟨by omega, fun s hs => ?_, by omega, by omega⟩
  have := mem_sum (fun s => s.length + 1) a.path s hs
  unfold sumL at g3
  omega
theorem argsM_err : ∀ (l : List WdD) (e : Nat × Int), (argsM l).2 = some e → e.2 ≠ 0
  | [], e, h => by cases h
  | w :: l, e, h => by
    rw [argsM] at h
    cases hw : argE w == 0 with
    | true => rw [hw] at h; exact argsM_err l e h
    | false =>
      rw [hw] at h
      simp only [cond_false, Option.some.injEq] at h
      rw [← h]
      simpa using hw
theorem calE_err {w : WdD} {r : List WdD} {ah : Bool} {e : Nat × Int} (h : calE w r ah = some e) : e.2 ≠ 0 := by
  unfold calE at h
  cases hn : isName w with
  | true =>
    rw [hn, cond_true] at h
    cases ha : (ar w.text).2.2 with
    | false =>
      rw [ha] at h
      simp only [Bool.not_false, cond_true, Option.some.injEq] at h
      rw [← h]; intro h0; cases h0
    | true =>
      rw [ha] at h
      simp only [Bool.not_true, cond_false] at h
      cases hx : (argsM r).2 with
      | some e2 =>
        rw [hx] at h
        simp only [Option.some.injEq] at h
        rw [← h]
        exact argsM_err r e2 hx
      | none =>
        rw [hx] at h
        simp only at h
        generalize (decide ((((argsM r).1.length + (bif ah then 1 else 0) : Nat) : Int) ≥ (ar w.text).1) && decide ((((argsM r).1.length + (bif ah then 1 else 0) : Nat) : Int) ≤ (ar w.text).2.1)) = x at h
        cases x
        · simp only [cond_false, Option.some.injEq] at h
          rw [← h]; intro h0; cases h0
        · cases h
  | false =>
    rw [hn, cond_false] at h
    cases ah with
    | true =>
      simp only [cond_true, Option.some.injEq] at h
      rw [← h]; intro h0; cases h0
    | false =>
      rw [cond_false] at h
      cases hE : argE w == 0 with
      | false =>
        rw [hE] at h
        simp only [cond_false, Option.some.injEq] at h
        rw [← h]
        simpa using hE
      | true =>
        rw [hE, cond_true] at h
        cases r with
        | nil => cases h
        | cons x r =>
          simp only [Option.some.injEq] at h
          rw [← h]; intro h0; cases h0
theorem parM_err : ∀ (m : Nat) (l : List WdD) (cs : List CallD) (at_ : Int) (e : Int × Int) (cs' : List CallD), parM m l cs at_ = (some e, cs') → e.2 ≠ 0
  | 0, l, cs, at_, e, cs', h => by cases h
  | m + 1, l, cs, at_, e, cs', h => by
    have fin : ∀ (a b : Int) (x : List CallD), b ≠ 0 → (some (a, b), x) = (some e, cs') → e.2 ≠ 0 := fun a b x hb h => by
      rw [Prod.mk.injEq, Option.some.injEq] at h
      rw [← h.1]; exact hb
    rw [parM] at h
    cases h6 : (hdW l).kind == 6 with
    | true => rw [h6] at h; exact fin _ _ _ (by decide) h
    | false =>
    rw [h6, cond_false] at h
    cases he : paE l (decide (0 < cs.length)) with
    | some e2 =>
      rw [he] at h
      unfold paE at he
      exact fin _ _ _ (calE_err he) h
    | none =>
    rw [he] at h
    simp only at h
    by_cases h16 : cs.length < 16
    case neg => rw [dF h16] at h; exact fin _ _ _ (by decide) h
    rw [dT h16, Bool.not_true, cond_false] at h
    cases hend : pPos l == l.length with
    | true => rw [hend] at h; cases h
    | false =>
    rw [hend, cond_false] at h
    cases hb : !(l.getD (pPos l) wd0).text == [124] with
    | true => rw [hb] at h; exact fin _ _ _ (by decide) h
    | false =>
    rw [hb, cond_false] at h
    by_cases hlt : pPos l + 1 < l.length
    case neg => rw [dF hlt] at h; exact fin _ _ _ (by decide) h
    rw [dT hlt, Bool.not_true, cond_false] at h
    exact parM_err m _ _ _ _ _ h
theorem parR_wf (s : List UInt8) (hs : s.length ≤ 1048576) : (∀ w ∈ wordsOf s, okWd w) ∧ ((parR (wordsOf s) 0).2.2 = 0 → pipeB (parR (wordsOf s) 0).1 = true ∧ pW (parR (wordsOf s) 0).1 ≤ 1572865 ∧ ∀ c ∈ (parR (wordsOf s) 0).1, CallW 1048576 c) := by
  obtain ⟨h1, h2⟩ := wdsM_wf s.length s 0
  have hle : ∀ w ∈ wordsOf s, w.text.length ≤ 1048576 := fun w hw => by
    have := mem_sum wtW (wordsOf s) w hw
    have := wtW_text w
    have : ((wordsOf s).map wtW).sum ≤ s.length := h2
    omega
  refine ⟨fun w hw => ⟨hle w hw, fun h3 => ?_⟩, fun h => ?_⟩
  · obtain ⟨hf, _⟩ := h1 w hw
    rcases hf with ⟨k, _⟩ | ⟨k, _⟩ | ⟨_, nm, l, _, _, e⟩ | ⟨k, _⟩ | ⟨k, _⟩ | ⟨k, _⟩
    · rw [h3] at k; cases k
    · rw [h3] at k; cases k
    · rw [e]; simp
    · rw [h3] at k; cases k
    · rw [h3] at k; cases k
    · rw [h3] at k; cases k
  · unfold parR at h ⊢
    cases hE : (wordsOf s).isEmpty with
    | true => rw [hE] at h; cases h
    | false =>
      rw [hE, cond_false] at h
      rw [cond_false]
      cases hp : parM (wordsOf s).length (wordsOf s) [] 0 with
      | mk o cs =>
        rw [hp] at h
        cases o with
        | some e => exact absurd h (parM_err _ _ _ _ _ _ hp)
        | none =>
          obtain ⟨c, q, e1, e2, e3, e4, e5, e6⟩ := par_wf 1048576 _ (wordsOf s) [] 0 cs (fun e => by rw [e] at hE; cases hE) (Nat.le_refl _) (fun x hx => ⟨h1 x hx, hle x hx⟩) hp
          rw [List.nil_append] at e1
          subst e1
          refine ⟨pipeB_mk e2 e3 e4, ?_, e5⟩
          have : ((wordsOf s).map wtW).sum ≤ s.length := h2
          show pW (c :: q) ≤ 1572865
          omega
end Go.Mu
set_option linter.unusedVariables false
set_option linter.unusedSimpArgs false
set_option maxRecDepth 100000
namespace Go.Mu
open Go Go.Proofs
theorem nil_sub (row row' : Nat → List AVal) (v : AVal) : SubL [AVal.list true 0 row, v] [AVal.list true 0 row', v] := .cons (Sub.list (fun h => h) (fun i hi => by omega)) (.cons (.refl _) .nil)
theorem may19_call (s : List UInt8) (hs : s.length ≤ 1048576) (k : Out → Ans) :
    iFun Tryd.prog (layMy.hd Tryd.prog) layMy.fhs 0 4 [.str s] [] k = k (.ret (.bool true) []) := by
  refine (may19_fun s k).trans ?_
  obtain ⟨w1, w2⟩ := parR_wf s hs
  have hwl := wordsOf_len s
  have dW := wds_dec (wordsOf s)
  have p0 : parOkR (AVal.list true 0 fun (x : Nat) => []) := ⟨by show 0 ≤ 67108864; omega, fun w hw => (by cases hw)⟩
  have s0 : SubL [AVal.list true 0 fun (x : Nat) => [], AVal.int IntKind.i64 0] [encWqsR (AVal.list true 0 fun (x : Nat) => []), AVal.int IntKind.i64 0] := nil_sub _ _ _
  have p1 : parOkR (AVal.list false (wordsOf s).length fun (i : Nat) => encWd 0 ((wordsOf s).getD i wd0)) := ⟨by rw [dW]; omega, by rw [dW]; exact w1⟩
  have g1 : parV (AVal.list false (wordsOf s).length fun (i : Nat) => encWd 0 ((wordsOf s).getD i wd0)) 0 = (parR (wordsOf s) 0).1 := by unfold parV parRR; rw [dW]
  have g2 : parE (AVal.list false (wordsOf s).length fun (i : Nat) => encWd 0 ((wordsOf s).getD i wd0)) 0 = (parR (wordsOf s) 0).2.2 := by unfold parE parRR; rw [dW]
  have hc0 : decide (s.length ≤ 1073741824 ∧ (0 : Int) ≤ 0 ∧ (0 : Int) ≤ 1099511627776) = true := dT ⟨by omega, by omega, by omega⟩
  have t0 : tst (parOkR (AVal.list true 0 fun (x : Nat) => []) ∧ SubL [AVal.list true 0 fun (x : Nat) => [], AVal.int IntKind.i64 0] [encWqsR (AVal.list true 0 fun (x : Nat) => []), AVal.int IntKind.i64 0] ∧ ([] : Heap) = []) = true := tst_true ⟨p0, s0, rfl⟩
  have t1 : tst (parOkR (AVal.list false (wordsOf s).length fun (i : Nat) => encWd 0 ((wordsOf s).getD i wd0)) ∧ SubL [AVal.list false (wordsOf s).length fun (i : Nat) => encWd 0 ((wordsOf s).getD i wd0), AVal.int IntKind.i64 0] [encWqsR (AVal.list false (wordsOf s).length fun (i : Nat) => encWd 0 ((wordsOf s).getD i wd0)), AVal.int IntKind.i64 0] ∧ ([] : Heap) = []) = true := tst_true ⟨p1, wds_sub _ _, rfl⟩
  rw [g1, g2, hc0, t0, t1]
  cases hE : (wordsE s).isSome with
  | true => rfl
  | false =>
    simp only [cond_true, cond_false]
    by_cases he : (parR (wordsOf s) 0).2.2 = 0
    case neg =>
      have hne : ((parR (wordsOf s) 0).2.2 != 0) = true := by simpa [bne] using he
      have hnil : (parR (wordsOf s) 0).1 = [] := by
        unfold parR at he ⊢
        generalize (wordsOf s).isEmpty = b at he ⊢
        cases b with
        | true => rfl
        | false =>
          simp only [cond_false] at he ⊢
          cases hp : parM (wordsOf s).length (wordsOf s) [] 0 with
          | mk o cs =>
            rw [hp] at he
            cases o with
            | some e => rfl
            | none => exact absurd rfl he
      rw [hne, hnil]
      rfl
    obtain ⟨hb, hW, hC⟩ := w2 he
    generalize hp : (parR (wordsOf s) 0).1 = p at hb hW hC ⊢
    have hne : ((parR (wordsOf s) 0).2.2 != 0) = false := by rw [he]; rfl
    have hi : ∀ c ∈ p, ∀ a ∈ c.args, inR a := fun c hc a ha => ((hC c hc).1 a ha).2.1
    have hpw : okPW p := okPW_of' (by omega) hC
    have hok : okPipe p := okPipe_of (by omega) hC
    have hl := printP_len p
    obtain ⟨r1, r2, q, r3, r4⟩ := pipe_round p hb hi
    have hoq := pipe_okEq r4 hok
    have d : decL decCall (AVal.list false p.length fun (i : Nat) => encCall (p.getD i callD0)) = p := decL_encL decCall_enc p
    have e1 : printR (AVal.list false p.length fun (i : Nat) => encCall (p.getD i callD0)) = printP p := by unfold printR; rw [d]
    have e2 : okPR (AVal.list false p.length fun (i : Nat) => encCall (p.getD i callD0)) := by unfold okPR; rw [d]; exact hpw
    have e3 : encPsR (AVal.list false p.length fun (i : Nat) => encCall (p.getD i callD0)) = AVal.list false p.length fun (i : Nat) => encCall (p.getD i callD0) := by unfold encPsR; rw [d]; rfl
    have dW' := wds_dec (wordsOf (printP p))
    have g1' : parV (AVal.list false (wordsOf (printP p)).length fun (i : Nat) => encWd 0 ((wordsOf (printP p)).getD i wd0)) 0 = q := by unfold parV parRR; rw [dW', r3]
    have g2' : parE (AVal.list false (wordsOf (printP p)).length fun (i : Nat) => encWd 0 ((wordsOf (printP p)).getD i wd0)) 0 = 0 := by unfold parE parRR; rw [dW', r3]
    have g3 : parOkR (AVal.list false (wordsOf (printP p)).length fun (i : Nat) => encWd 0 ((wordsOf (printP p)).getD i wd0)) := ⟨by rw [dW']; exact Nat.le_trans (wordsOf_len _) (by omega), by rw [dW']; exact r2⟩
    have dq : decL decCall (AVal.list false q.length fun (i : Nat) => encCall (q.getD i callD0)) = q := decL_encL decCall_enc q
    have tp : tst (okPR (AVal.list false p.length fun (i : Nat) => encCall (p.getD i callD0)) ∧ SubL [AVal.list false p.length fun (i : Nat) => encCall (p.getD i callD0)] [AVal.list false p.length fun (i : Nat) => encCall (p.getD i callD0)] ∧ True) = true := tst_true ⟨e2, .refl _, trivial⟩
    have tq : tst ((AVal.list false p.length fun (i : Nat) => encCall (p.getD i callD0)) = encPipe false p ∧ okPipe p) = true := tst_true ⟨rfl, hok⟩
    rw [hne]
    simp only [cond_false, e1, e3, d, tp, cond_true, tq]
    rw [dT (show (printP p).length ≤ 1073741824 ∧ (0 : Int) ≤ 0 ∧ (0 : Int) ≤ 1099511627776 by omega), cond_true]
    simp only [r1, Option.isSome_none, cond_false, g1', g2', dq, hb]
    have tc : tst (True ∧ okPipe p) = true := tst_true ⟨trivial, hok⟩
    have td : tst (True ∧ True ∧ okPipe p ∧ okPipe q) = true := tst_true ⟨trivial, trivial, hok, hoq⟩
    rw [tst_true ⟨g3, wds_sub _ _, by first | trivial | rfl⟩, cond_true, tc, cond_true, td, cond_true, r4]
    rfl
theorem may_ok19 (s : List UInt8) (hs : s.length ≤ 1048576) : CallOK Tryd.prog 4 [.str s] [] (.ret (.bool true) []) := layMy_ok.call (may19_call s hs)
end Go.Mu
set_option linter.unusedVariables false
namespace Go.Mu
open Go
variable {H : Type}
mutual
theorem size_bulk : ∀ d : DataW H, (tOf d).size ≤ Go.Proofs.YtfepcpcnfibbnaaDoor.Rows.uptoBulk d
  | .lit (.bool _) => by simp [tOf, T.size, Go.Proofs.YtfepcpcnfibbnaaDoor.Rows.uptoBulk]
  | .lit (.int _ _) => by simp [tOf, T.size, Go.Proofs.YtfepcpcnfibbnaaDoor.Rows.uptoBulk]
  | .lit (.string _) => by simp [tOf, T.size, Go.Proofs.YtfepcpcnfibbnaaDoor.Rows.uptoBulk]
  | .lit (.float _ _) => by simp [tOf, T.size, T.sizes, Go.Proofs.YtfepcpcnfibbnaaDoor.Rows.uptoBulk]
  | .lit .nil => by simp [tOf, T.size, T.sizes, Go.Proofs.YtfepcpcnfibbnaaDoor.Rows.uptoBulk]
  | .nil => by simp [tOf, T.size, T.sizes, Go.Proofs.YtfepcpcnfibbnaaDoor.Rows.uptoBulk]
  | .ptr d => by simp [tOf, T.size, T.sizes, Go.Proofs.YtfepcpcnfibbnaaDoor.Rows.uptoBulk]
  | .slice es sp => by
    have := size_bulks es
    simp only [tOf, T.size, Go.Proofs.YtfepcpcnfibbnaaDoor.Rows.uptoBulk]
    omega
  | .agg ps => by
    have := size_bulks ps
    simp only [tOf, T.size, Go.Proofs.YtfepcpcnfibbnaaDoor.Rows.uptoBulk]
    omega
  | .iface _ d => by simp [tOf, T.size, T.sizes, Go.Proofs.YtfepcpcnfibbnaaDoor.Rows.uptoBulk]
  | .map _ => by simp [tOf, T.size, T.sizes, Go.Proofs.YtfepcpcnfibbnaaDoor.Rows.uptoBulk]
  | .held _ => by simp [tOf, T.size, T.sizes, Go.Proofs.YtfepcpcnfibbnaaDoor.Rows.uptoBulk]
theorem size_bulks : ∀ ds : List (DataW H), T.sizes (tOfs ds) ≤ Go.Proofs.YtfepcpcnfibbnaaDoor.Rows.uptoBulkAll ds
  | [] => by simp [tOfs, T.sizes, Go.Proofs.YtfepcpcnfibbnaaDoor.Rows.uptoBulkAll]
  | d :: ds => by
    have := size_bulk d
    have := size_bulks ds
    simp only [tOfs, T.sizes, Go.Proofs.YtfepcpcnfibbnaaDoor.Rows.uptoBulkAll]
    omega
end
theorem small_size {ds : List (DataW H)} (h : Go.Proofs.YtfepcpcnfibbnaaDoor.Rows.uptoSmall H ds = true) : T.sizes (tOfs ds) ≤ 1048576 := by
  unfold Go.Proofs.YtfepcpcnfibbnaaDoor.Rows.uptoSmall at h
  have := size_bulks ds
  have := of_decide_eq_true h
  omega
end Go.Mu
