/-
  Lemmas on the given program (part 7).
-/
import Derived.Test.YtlobblkhninckaaGreatDoorFL6
import Derived.Shelf.LaysM
import Derived.Shelf.Strings.Fields
import Derived.Test.YtlobblkhninckaaGreatDoorProg
import Derived.KernelRfl
set_option linter.unusedVariables false
set_option linter.unusedSimpArgs false
set_option maxRecDepth 100000
namespace Go.Mu
open Go Go.Proofs
def spc (c : UInt8) : Bool := c == 47 || c == 63 || c == 35 || c == 58
theorem url_in : ∀ (y : Bs) (p : Int) (w : Bs), (p = 2 ∨ p = 3) → (feedP urlStep p w y).1 ≠ 5
 | [], p, w, h => by show p ≠ 5; omega
 | c :: y, p, w, h => by
  have e : (urlStep p w c).1 = 2 ∨ (urlStep p w c).1 = 3 := by
   unfold urlStep
   rcases h with rfl | rfl
   · cases c == 63 || c == 35
     · exact .inl rfl
     · exact .inr rfl
   · exact .inr rfl
  exact url_in y _ _ e
theorem first_spc {w : Bs} {c : UInt8} (h : spc c = true) (h58 : c ≠ 58) : (urlFirst w c).1 = 2 ∨ (urlFirst w c).1 = 3 := by
 have h58 : (c == 58) = false := beq_false_of_ne h58
 unfold spc at h
 rw [h58, Bool.or_false] at h
 unfold urlFirst
 cases h47 : c == 47 with
 | true => exact .inl rfl
 | false =>
  rw [h47, Bool.false_or] at h
  rw [h]
  exact .inr rfl
theorem first_no {w : Bs} {c : UInt8} (h : spc c = false) : urlFirst w c = (1, bif decide (w.length < 16) then w ++ [smallB c] else w) := by
 unfold spc at h
 simp only [Bool.or_eq_false_iff] at h
 obtain ⟨⟨⟨h1, h2⟩, h3⟩, h4⟩ := h
 unfold urlFirst
 rw [h1, h2, h3, h4]
 simp only [Bool.or_self, Bool.false_and, cond_false]
 cases decide (w.length < 16) <;> rfl
theorem url_nc : ∀ (y : Bs) (p : Int) (w : Bs), (p = 0 ∨ p = 1) → (y.filter spc).head? ≠ some 58 → (feedP urlStep p w y).1 ≠ 5
 | [], p, w, h, _ => by show p ≠ 5; omega
 | c :: y, p, w, h, hf => by
  obtain ⟨w1, e⟩ : ∃ w1, urlStep p w c = urlFirst w1 c := by
   rcases h with rfl | rfl
   · exact ⟨[], rfl⟩
   · exact ⟨w, rfl⟩
  show (feedP urlStep (urlStep p w c).1 (urlStep p w c).2 y).1 ≠ 5
  rw [e]
  cases hs : spc c with
  | true =>
   rw [List.filter_cons_of_pos hs] at hf
   have h58 : c ≠ 58 := fun h => hf (by rw [h]; rfl)
   exact url_in y _ _ (first_spc hs h58)
  | false =>
   rw [List.filter_cons_of_neg (by rw [hs]; decide)] at hf
   rw [first_no hs]
   exact url_nc y 1 _ (.inr rfl) hf
theorem url_word : ∀ (pre w : Bs) (p : Int), (p = 1 ∨ (p = 0 ∧ w = [])) → (∀ c ∈ pre, spc c = false) → w.length + pre.length ≤ 16 → pre ≠ [] → ∀ y, feedP urlStep p w (pre ++ y) = feedP urlStep 1 (w ++ pre.map smallB) y
 | [], w, p, _, _, _, h0, _ => absurd rfl h0
 | c :: pre, w, p, hp, hs, hl, _, y => by
  have e : urlStep p w c = urlFirst w c := by
   rcases hp with rfl | ⟨rfl, rfl⟩ <;> rfl
  simp only [List.length_cons] at hl
  show feedP urlStep (urlStep p w c).1 (urlStep p w c).2 (pre ++ y) = _
  rw [e, first_no (hs c (by simp)), dT (show w.length < 16 by omega), cond_true]
  cases pre with
  | nil => rfl
  | cons d pre =>
   rw [url_word (d :: pre) (w ++ [smallB c]) 1 (.inl rfl) (fun x hx => hs x (by simp [hx])) (by simp only [List.length_append, List.length_cons, List.length_nil] at hl ⊢; omega) (by simp) y]
   rw [List.map_cons (f := smallB) (a := c), List.append_assoc]; rfl
theorem url_allowed {pre : Bs} (hs : ∀ c ∈ pre, spc c = false) (ha : allowedB (pre.map smallB) = true) (y : Bs) : (feedP urlStep 0 [] (pre ++ 58 :: y)).1 ≠ 5 := by
 have hl : pre.length ≤ 6 ∧ pre ≠ [] := by
  unfold allowedB at ha
  simp only [Bool.or_eq_true, beq_iff_eq] at ha
  have e : (pre.map smallB).length = pre.length := List.length_map ..
  refine ⟨?_, fun h => ?_⟩
  · rcases ha with (h | h) | h <;> (rw [h] at e; simp at e; omega)
  · subst h; rcases ha with (h | h) | h <;> cases h
 rw [url_word pre [] 0 (.inr ⟨rfl, rfl⟩) hs (by simp only [List.length_nil]; omega) hl.2]
 have e : urlStep 1 ([] ++ pre.map smallB) 58 = (2, []) := by
  show (bif (58 : UInt8) == 58 && allowedB ([] ++ pre.map smallB) then ((2 : Int), ([] : Bs)) else _) = _
  rw [List.nil_append, ha]
  rfl
 show (feedP urlStep (urlStep 1 ([] ++ pre.map smallB) 58).1 (urlStep 1 ([] ++ pre.map smallB) 58).2 y).1 ≠ 5
 rw [e]
 exact url_in y 2 [] (.inl rfl)
theorem rdP_asc {c : UInt8} {s : Bs} (h1 : 1 ≤ c.toNat) (h2 : c.toNat < 128) : rdP (c :: s) = (((c.toNat : Nat) : Int), 1) := by
 have hD := dgo_N (c :: s) (by simp)
 have hs := Lib.decodeN_shape (c :: s).length ((c :: s).getD 0 0).toNat ((c :: s).getD 1 0).toNat ((c :: s).getD 2 0).toNat ((c :: s).getD 3 0).toNat
 rw [← hD] at hs
 simp only [List.getD_cons_zero] at hs
 unfold rdP decC
 rcases hs with ⟨a, b⟩ | h | h | h | h
 · rw [b]
   rw [if_neg (by show ¬ (c.toNat = 65533 ∧ 1 < 2); omega)]
 · omega
 · omega
 · omega
 · exfalso
   have : Lib.decodeN (c :: s).length c.toNat ((c :: s).getD 1 0).toNat ((c :: s).getD 2 0).toNat ((c :: s).getD 3 0).toNat = (c.toNat, 1) := by
    unfold Lib.decodeN
    rw [if_pos h2]
   rw [hD] at h
   simp only [List.getD_cons_zero] at h
   rw [this] at h
   have := (Prod.mk.inj h).1
   omega
theorem chL_fuel : ∀ (m : Nat) (s : Bs), s.length ≤ m → chL m s = chP s := by
 have key : ∀ (n : Nat) (s : Bs), s.length ≤ n → ∀ m k, s.length ≤ m → s.length ≤ k → chL m s = chL k s := by
  intro n
  induction n with
  | zero =>
   intro s hs m k _ _
   have : s = [] := List.length_eq_zero_iff.1 (by omega)
   subst this
   rw [chL_nil, chL_nil]
  | succ n ih =>
   intro s hs m k hm hk
   by_cases h : s = []
   · subst h; rw [chL_nil, chL_nil]
   have hl : 0 < s.length := List.length_pos_iff.2 h
   obtain ⟨m, rfl⟩ : ∃ j, m = j + 1 := ⟨m - 1, by omega⟩
   obtain ⟨k, rfl⟩ : ∃ j, k = j + 1 := ⟨k - 1, by omega⟩
   have hw := rdP_w s h
   rw [chL_cons m s h, chL_cons k s h, ih (s.drop (rdP s).2) (by simp; omega) m k (by simp; omega) (by simp; omega)]
 exact fun m s h => key m s h m s.length h (Nat.le_refl _)
theorem rp_cons {s : Bs} (h : s ≠ []) : rpP s = encX (if (rdP s).1 ≤ 0 then 65533 else (rdP s).1) ++ rpP (s.drop (rdP s).2) := by
 have hl : 0 < s.length := List.length_pos_iff.2 h
 have hw := rdP_w s h
 unfold rpP
 rw [← chL_fuel (s.length - 1 + 1) s (by omega), chL_cons _ s h, List.flatMap_cons, chL_fuel _ _ (by simp; omega)]
theorem encX_asc : ∀ m : Fin 128, 0 < m.val → encX ((m.val : Nat) : Int) = [UInt8.ofNat m.val] := by decide +kernel
theorem rp_ascC {c : UInt8} {s : Bs} (h1 : 1 ≤ c.toNat) (h2 : c.toNat < 128) : rpP (c :: s) = c :: rpP s := by
 have e := encX_asc ⟨c.toNat, h2⟩ h1
 simp only [UInt8.ofNat_toNat] at e
 rw [rp_cons (by simp), rdP_asc h1 h2, if_neg (by omega), e]
 rfl
theorem rp_pre : ∀ {pre : Bs}, (∀ c ∈ pre, 1 ≤ c.toNat ∧ c.toNat < 128) → ∀ s, rpP (pre ++ s) = pre ++ rpP s
 | [], _, s => rfl
 | c :: pre, h, s => by
  have := h c (by simp)
  rw [List.cons_append, rp_ascC this.1 this.2, rp_pre (fun d hd => h d (by simp [hd])) s]
  rfl
theorem spc_lt : ∀ c : UInt8, spc c = true → 1 ≤ c.toNat ∧ c.toNat < 128 := oct256 (p := fun c => spc c = true → 1 ≤ c.toNat ∧ c.toNat < 128) (by decide +kernel)
abbrev noSpc (l : Bs) : Prop := ∀ c ∈ l, spc c = false
theorem filt_no {l : Bs} (h : noSpc l) : l.filter spc = [] := List.filter_eq_nil_iff.2 (fun c hc => by rw [h c hc]; decide)
theorem spc_hi {c : UInt8} (h : 128 ≤ c.toNat ∨ c.toNat = 0) : spc c = false := by
 cases hs : spc c with
 | false => rfl
 | true =>
  have := spc_lt c hs
  omega
theorem encZ_hi {r : Int} (h : 128 ≤ r) (h2 : r ≤ 1114111) (h3 : ¬ (55296 ≤ r ∧ r ≤ 57343)) : ∀ x ∈ Lib.encodeRuneZ r, 128 ≤ x := by
 intro x hx
 by_cases a : r ≤ 2047
 · rw [Lib.encodeRuneZ_two h a] at hx
   simp only [List.mem_cons, List.not_mem_nil, or_false] at hx
   omega
 by_cases b : r ≤ 65535
 · rw [Lib.encodeRuneZ_three (by omega)] at hx
   simp only [List.mem_cons, List.not_mem_nil, or_false] at hx
   omega
 rw [Lib.encodeRuneZ_four (by omega) h2] at hx
 simp only [List.mem_cons, List.not_mem_nil, or_false] at hx
 omega
theorem encX_hi {r : Int} (h : 128 ≤ r) (h2 : r ≤ 1114111) (h3 : ¬ (55296 ≤ r ∧ r ≤ 57343)) : noSpc (encX r) := by
 rw [(encX_good (by omega) h2 h3).1]
 intro c hc
 unfold Lib.encodeRune at hc
 obtain ⟨x, hx, rfl⟩ := List.mem_map.1 hc
 have h4 := encZ_hi h h2 h3 x hx
 have h5 := Lib.encodeRuneZ_byte r x hx
 refine spc_hi (.inl ?_)
 show 128 ≤ (UInt8.ofNat x.toNat).toNat
 rw [UInt8.toNat_ofNat']
 omega
theorem mem_take {l : Bs} {n : Nat} {c : UInt8} (h : c ∈ l.take n) : ∃ i, i < n ∧ c = l.getD i 0 := by
 obtain ⟨i, hi, rfl⟩ := List.mem_iff_getElem.1 h
 rw [List.length_take] at hi
 refine ⟨i, by omega, ?_⟩
 rw [List.getElem_take, List.getD_eq_getElem?_getD, List.getElem?_eq_getElem (by omega)]
 rfl
theorem rd_hi {s : Bs} (h : s ≠ []) (hc : (s.getD 0 0).toNat = 0 ∨ 128 ≤ (s.getD 0 0).toNat) : (∀ i, i < (rdP s).2 → (s.getD i 0).toNat = 0 ∨ 128 ≤ (s.getD i 0).toNat) ∧ ((rdP s).1 ≤ 0 ∨ 128 ≤ (rdP s).1) := by
 have hD := dgo_N s h
 have hs := Lib.decodeN_shape s.length (s.getD 0 0).toNat (s.getD 1 0).toNat (s.getD 2 0).toNat (s.getD 3 0).toNat
 rw [← hD] at hs
 unfold rdP decC
 rcases hs with ⟨a, b⟩ | ⟨a1, a2, a3, a4, b⟩ | ⟨a1, a2, a3, a4, a5, a6, b⟩ | ⟨a1, a2, a3, a4, a5, a6, a7, b⟩ | b
 · rw [b, if_neg (by show ¬ ((s.getD 0 0).toNat = 65533 ∧ 1 < 2); omega)]
   refine ⟨fun i hi => ?_, .inl (by show ((s.getD 0 0).toNat : Int) ≤ 0; omega)⟩
   have : i = 0 := by simp only at hi; omega
   subst this; exact hc
 · rw [b, if_neg (by show ¬ (_ ∧ 2 < 2); omega)]
   refine ⟨fun i hi => ?_, .inr (by show 128 ≤ ((_ : Nat) : Int); omega)⟩
   have : i = 0 ∨ i = 1 := by simp only at hi; omega
   rcases this with rfl | rfl
   · exact hc
   · omega
 · rw [b, if_neg (by show ¬ (_ ∧ 3 < 2); omega)]
   refine ⟨fun i hi => ?_, .inr (by show 128 ≤ ((_ : Nat) : Int); omega)⟩
   have : i = 0 ∨ i = 1 ∨ i = 2 := by simp only at hi; omega
   rcases this with rfl | rfl | rfl
   · exact hc
   · omega
   · omega
 · rw [b, if_neg (by show ¬ (_ ∧ 4 < 2); omega)]
   refine ⟨fun i hi => ?_, .inr (by show 128 ≤ ((_ : Nat) : Int); omega)⟩
   have : i = 0 ∨ i = 1 ∨ i = 2 ∨ i = 3 := by simp only at hi; omega
   rcases this with rfl | rfl | rfl | rfl
   · exact hc
   · omega
   · omega
   · omega
 · rw [b, if_pos ⟨rfl, by decide⟩]
   refine ⟨fun i hi => ?_, .inl (by decide)⟩
   have : i = 0 := by simp only at hi; omega
   subst this; exact hc
theorem filt_rp : ∀ (n : Nat) (s : Bs), s.length ≤ n → (rpP s).filter spc = s.filter spc := by
 intro n
 induction n with
 | zero =>
  intro s hs
  have : s = [] := List.length_eq_zero_iff.1 (by omega)
  subst this
  rfl
 | succ n ih =>
  intro s hs
  cases s with
  | nil => rfl
  | cons c t =>
   simp only [List.length_cons] at hs
   by_cases ha : 1 ≤ c.toNat ∧ c.toNat < 128
   · rw [rp_ascC ha.1 ha.2]
     cases hsp : spc c with
     | true => rw [List.filter_cons_of_pos hsp, List.filter_cons_of_pos hsp, ih t (by omega)]
     | false => rw [List.filter_cons_of_neg (by rw [hsp]; decide), List.filter_cons_of_neg (by rw [hsp]; decide), ih t (by omega)]
   · have hne : (c :: t) ≠ [] := by simp
     obtain ⟨r1, r2⟩ := rd_hi hne (by show c.toNat = 0 ∨ 128 ≤ c.toNat; omega)
     have hok := rdP_ok (c :: t) hne
     have hw := rdP_w (c :: t) hne
     have e1 : (encX (if (rdP (c :: t)).1 ≤ 0 then 65533 else (rdP (c :: t)).1)).filter spc = [] := by
      refine filt_no ?_
      by_cases h0 : (rdP (c :: t)).1 ≤ 0
      · rw [if_pos h0]; exact encX_hi (by decide) (by decide) (by decide)
      · rw [if_neg h0]; exact encX_hi (by omega) hok.1 hok.2
     have e2 : ((c :: t).take (rdP (c :: t)).2).filter spc = [] := by
      refine filt_no (fun d hd => ?_)
      obtain ⟨i, hi, rfl⟩ := mem_take hd
      exact spc_hi (by have := r1 i hi; omega)
     have e3 : (c :: t).filter spc = ((c :: t).take (rdP (c :: t)).2).filter spc ++ ((c :: t).drop (rdP (c :: t)).2).filter spc := by
      rw [← List.filter_append, List.take_append_drop]
     rw [rp_cons hne, List.filter_append, e1, e3, e2, ih _ (by simp only [List.length_drop, List.length_cons]; omega)]
theorem hxC_no : ∀ m : Fin 16, spc (hxC ((m.val : Nat) : Int)) = false := by decide +kernel
theorem hxC_spc (n d : Int) : spc (hxC (hxN n d)) = false := by
 have h1 := hxN_lt n d
 have h0 : 0 ≤ hxN n d := by
  unfold hxN
  have e : ∀ x : Int, IntKind.u64.wrap x = x % 18446744073709551616 := fun x => by simp [IntKind.wrap, IntKind.signed, IntKind.bits]
  rw [e]
  omega
 obtain ⟨m, hm⟩ : ∃ m : Fin 16, hxN n d = ((m.val : Nat) : Int) := ⟨⟨(hxN n d).toNat, by omega⟩, by simp; omega⟩
 rw [hm]
 exact hxC_no m
theorem hexX_spc (n size : Int) : noSpc (hexX n size) := by
 unfold hexX
 intro c hc
 cases hs : size == 2 <;> rw [hs] at hc <;> simp only [cond_true, cond_false, List.mem_cons, List.not_mem_nil, or_false] at hc
 · rcases hc with rfl | rfl | rfl | rfl <;> exact hxC_spc _ _
 · rcases hc with rfl | rfl <;> exact hxC_spc _ _
theorem flat_filter (f : Nat → UInt8) (g : Nat → Bs) (h : ∀ i, (g i).filter spc = [f i].filter spc) : ∀ l : List Nat, (l.flatMap g).filter spc = (l.map f).filter spc
 | [] => rfl
 | i :: l => by
  rw [List.flatMap_cons, List.filter_append, h i, flat_filter f g h l, List.map_cons, ← List.filter_append]
  rfl
theorem range_get (z : Bs) (n : Nat) (h : n ≤ z.length) : (List.range n).map (fun i => z.getD i 0) = z.take n := by
 refine List.ext_getElem (by simp; omega) (fun i h1 h2 => ?_)
 simp only [List.length_map, List.length_range] at h1
 rw [List.getElem_map, List.getElem_range, List.getElem_take, List.getD_eq_getElem?_getD, List.getElem?_eq_getElem (by omega)]
 rfl
theorem wr_filter {M : Bs → Int → Bool} (z : Bs) (hM : ∀ i : Nat, spc (z.getD i 0) = true → M z i = true) : (wrT M z).filter spc = z.filter spc := by
 unfold wrT
 rw [flat_filter (fun i => z.getD i 0) _ (fun i => ?_), range_get z z.length (Nat.le_refl _), List.take_length]
 unfold wrG
 cases hm : M z i with
 | true => rfl
 | false =>
  have hs : spc (z.getD i 0) = false := by
   cases hs : spc (z.getD i 0) with
   | false => rfl
   | true => rw [hM i hs] at hm; cases hm
  have e : (bif false then [[z.getD i 0]] else [[37], hexX (z.getD i 0).toNat 2]).flatten = 37 :: hexX (z.getD i 0).toNat 2 := by simp
  rw [e, filt_no (l := [z.getD i 0]) (by intro c hc; rw [List.mem_singleton] at hc; subst hc; exact hs)]
  exact filt_no (fun c hc => by
   rcases List.mem_cons.1 hc with rfl | hc
   · decide
   · exact hexX_spc _ _ c hc)
theorem mayN_res {z : Bs} {i : Nat} (h : unrI ((z.getD i 0).toNat : Int) = true ∨ ibM [33, 35, 36, 38, 42, 43, 44, 47, 58, 59, 61, 63, 64, 91, 93] ((z.getD i 0).toNat : Int) ≥ 0) : mayNM z i = true := by
 unfold mayNM
 simp only [Int.toNat_natCast]
 have e : (bif unrI ((z.getD i 0).toNat : Int) then true else decide (ibM [33, 35, 36, 38, 42, 43, 44, 47, 58, 59, 61, 63, 64, 91, 93] ((z.getD i 0).toNat : Int) ≥ 0)) = true := by
  rcases h with h | h
  · rw [h]; rfl
  · rw [dT h]; cases unrI ((z.getD i 0).toNat : Int) <;> rfl
 rw [e]
 generalize (bif ((z.getD i 0).toNat : Int) != 37 then true else decide (IntKind.i64.wrap ((z.length : Int) - i) < 3)) = b
 cases b <;> rfl
theorem spc_res : ∀ c : UInt8, spc c = true → ibM [33, 35, 36, 38, 42, 43, 44, 47, 58, 59, 61, 63, 64, 91, 93] ((c.toNat : Nat) : Int) ≥ 0 := oct256 (p := fun c => spc c = true → ibM [33, 35, 36, 38, 42, 43, 44, 47, 58, 59, 61, 63, 64, 91, 93] ((c.toNat : Nat) : Int) ≥ 0) (by decide +kernel)
theorem filt_norm (s : Bs) : (normP s).filter spc = s.filter spc := by
 unfold normP
 rw [wr_filter (rpP s) (fun i h => mayN_res (.inr (spc_res _ h))), filt_rp s.length s (Nat.le_refl _)]
theorem wr_pre {M : Bs → Int → Bool} (z : Bs) (n : Nat) (hn : n ≤ z.length) (hM : ∀ i : Nat, i < n → M z i = true) : ∃ y, wrT M z = z.take n ++ y := by
 refine ⟨((List.range (z.length - n)).map (n + ·)).flatMap (fun i => (wrG M z i).flatten), ?_⟩
 unfold wrT
 have e : List.range z.length = List.range n ++ (List.range (z.length - n)).map (n + ·) := by
  rw [← List.range_add]; congr 1; omega
 rw [e, List.flatMap_append, ← range_get z n hn]
 congr 1
 have : ∀ l : List Nat, (∀ i ∈ l, i < n) → l.flatMap (fun i => (wrG M z i).flatten) = l.map (fun i => z.getD i 0) := by
  intro l
  induction l with
  | nil => intro _; rfl
  | cons i l ih =>
   intro h
   have e2 : (wrG M z i).flatten = [z.getD i 0] := by unfold wrG; rw [hM i (h i (by simp))]; rfl
   rw [List.flatMap_cons, e2, ih (fun j hj => h j (by simp [hj]))]
   rfl
 exact this _ (fun i hi => List.mem_range.1 hi)
theorem lowC_small : ∀ c : UInt8, lowC c = smallB c := oct256 (p := fun c => lowC c = smallB c) (by decide +kernel)
def lowLet (c : UInt8) : Bool := decide (97 ≤ c.toNat) && decide (c.toNat ≤ 122)
theorem let_ok : ∀ c : UInt8, lowLet (smallB c) = true → 1 ≤ c.toNat ∧ c.toNat < 128 ∧ spc c = false ∧ unrI ((c.toNat : Nat) : Int) = true := oct256 (p := fun c => lowLet (smallB c) = true → 1 ≤ c.toNat ∧ c.toNat < 128 ∧ spc c = false ∧ unrI ((c.toNat : Nat) : Int) = true) (by decide +kernel)
theorem allowed_let {w : Bs} (h : allowedB w = true) : ∀ c ∈ w, lowLet c = true := by
 unfold allowedB at h
 simp only [Bool.or_eq_true, beq_iff_eq] at h
 rw [← List.all_eq_true]
 rcases h with (h | h) | h <;> rw [h] <;> decide
theorem scP_spc : ∀ c : UInt8, c ≠ 58 → scP c = spc c := oct256 (p := fun c => c ≠ 58 → scP c = spc c) (by decide +kernel)
theorem head_none {l : Bs} (h : (58 : UInt8) ∉ l) : (l.filter spc).head? ≠ some 58 := fun h2 => by
 have : (58 : UInt8) ∈ l.filter spc := List.mem_of_mem_head? h2
 exact h (List.mem_filter.1 this).1
theorem filter_part (s : Bs) : (feedP urlStep 0 [] (schFP s)).1 ≠ 5 := by
 have hn : ∀ y : Bs, (y.filter spc).head? ≠ some 58 → (feedP urlStep 0 [] y).1 ≠ 5 := fun y hy => url_nc y 0 [] (.inl rfl) hy
 have mk : (feedP urlStep 0 [] [35, 90, 103, 111, 116, 109, 112, 108, 90]).1 ≠ 5 := hn _ (by decide)
 have e58 : ibM s 58 = Lib.indexByte s 58 := rfl
 rcases ib_split s 58 with ⟨h1, h2⟩ | ⟨p, q, h1, h2, h3⟩
 · have e : schFP s = normP s := by
    unfold schFP schemeM
    rw [e58, h1]; rfl
   rw [e]
   exact hn _ (by rw [filt_norm]; exact head_none h2)
 · have et : (s.take (ibM s 58).toNat) = p := by rw [e58, h3, h1]; simp
   have e0 : decide (ibM s 58 < 0) = false := dF (by rw [e58, h3]; omega)
   have hsp : ∀ c ∈ p, scP c = spc c := fun c hc => scP_spc c (fun h => h2 (h ▸ hc))
   unfold schFP schemeM
   rw [e0, et, Bool.false_or]
   cases ha : p.any scP with
   | true =>
    show (feedP urlStep 0 [] (normP s)).1 ≠ 5
    refine hn _ ?_
    rw [filt_norm, h1, List.filter_append]
    obtain ⟨c, hc, hc2⟩ := List.any_eq_true.1 ha
    rw [hsp c hc] at hc2
    have hne : p.filter spc ≠ [] := fun h => by
     have := List.mem_filter.2 ⟨hc, hc2⟩
     rw [h] at this; cases this
    have hh := head_none h2
    cases hpf : p.filter spc with
    | nil => exact absurd hpf hne
    | cons d t => rw [hpf] at hh; exact hh
   | false =>
    simp only [cond_false, cond_true]
    have hp : noSpc p := fun c hc => by
     rw [← hsp c hc]
     have := List.any_eq_false.1 ha c hc
     simpa using this
    cases hal : (bif bif lowM p == [104, 116, 116, 112] then true else lowM p == [104, 116, 116, 112, 115] then true else lowM p == [109, 97, 105, 108, 116, 111]) with
    | false => exact mk
    | true =>
     have hl : allowedB (p.map smallB) = true := by
      have e : lowM p = p.map smallB := by unfold lowM; exact List.map_congr_left (fun c _ => lowC_small c)
      rw [← e]
      unfold allowedB
      revert hal
      cases lowM p == [104, 116, 116, 112] <;> cases lowM p == [104, 116, 116, 112, 115] <;> cases lowM p == [109, 97, 105, 108, 116, 111] <;> decide
     show (feedP urlStep 0 [] (normP s)).1 ≠ 5
     have hlet : ∀ c ∈ p, 1 ≤ c.toNat ∧ c.toNat < 128 ∧ spc c = false ∧ unrI ((c.toNat : Nat) : Int) = true := fun c hc => let_ok c (allowed_let hl _ (List.mem_map_of_mem hc))
     have hz : rpP s = p ++ 58 :: rpP q := by
      rw [h1, rp_pre (fun c hc => ⟨(hlet c hc).1, (hlet c hc).2.1⟩), rp_ascC (by decide) (by decide)]
     have hget : ∀ i, i < p.length → (p ++ 58 :: rpP q).getD i 0 = p.getD i 0 := fun i hi => by
      rw [List.getD_eq_getElem?_getD, List.getD_eq_getElem?_getD, List.getElem?_append_left hi]
     have hmid : (p ++ 58 :: rpP q).getD p.length 0 = 58 := by
      rw [List.getD_eq_getElem?_getD, List.getElem?_append_right (Nat.le_refl _)]; simp
     obtain ⟨y, hy⟩ := wr_pre (M := mayNM) (p ++ 58 :: rpP q) (p.length + 1) (by simp) (fun i hi => by
      by_cases hip : i < p.length
      · refine mayN_res (.inl ?_)
        rw [hget i hip]
        refine (hlet _ ?_).2.2.2
        rw [List.getD_eq_getElem?_getD, List.getElem?_eq_getElem hip]
        exact List.getElem_mem hip
      · have : i = p.length := by omega
        subst this
        refine mayN_res (.inr ?_)
        rw [hmid]
        decide)
     have e2 : normP s = p ++ 58 :: y := by
      unfold normP
      rw [hz, hy]
      have : (p ++ 58 :: rpP q).take (p.length + 1) = p ++ [58] := by
       rw [List.take_append, List.take_of_length_le (by omega)]; simp
      rw [this, List.append_assoc]; rfl
     rw [e2]
     exact url_allowed hp hl y
theorem cp_ok : ∀ c : UInt8, cpP (lowC c) = false → cssQ c = true ∧ c ≠ 60 ∧ ascB c = true := oct256 (p := fun c => cpP (lowC c) = false → cssQ c = true ∧ c ≠ 60 ∧ ascB c = true) (by decide +kernel)
theorem cssF_all (s : Bs) : ∀ c ∈ cssF s, cssQ c = true ∧ c ≠ 60 ∧ ascB c = true := by
 unfold cssF
 cases hp : plainM s with
 | false =>
  intro c hc
  simp only [cond_false, List.mem_cons, List.not_mem_nil, or_false] at hc
  rcases hc with rfl | rfl | rfl | rfl | rfl | rfl | rfl | rfl <;> decide
 | true =>
  intro c hc
  have hc : c ∈ s := hc
  unfold plainM at hp
  simp only [Bool.and_eq_true, Bool.not_eq_true'] at hp
  have := List.any_eq_false.1 hp.2.2 (lowC c) (List.mem_map_of_mem hc)
  exact cp_ok c (by simpa using this)
end Go.Mu
namespace Go.Mu
open Go Go.Proofs
inductive HoleC (t : SS) : SS → Int → Prop
 | data (hk : t.k = 0) : HoleC t t 1
 | title (hk : t.k = 17) : HoleC t t 2
 | attr (hk : t.k = 9) (hl : langM t = 0) : HoleC t t 3
 | url0 (hk : t.k = 9) (hl : langM t = 1) (hp : t.pt = 0) : HoleC t (pwS t (4, [])) 4
 | url2 (hk : t.k = 9) (hl : langM t = 1) (hp : t.pt = 2) : HoleC t (pwS t (2, [])) 5
 | url3 (hk : t.k = 9) (hl : langM t = 1) (hp : t.pt = 3) : HoleC t (pwS t (3, [])) 6
 | code (hk : t.k = 19) (hl : langM t = 2) (hp : t.pt = 0 ∨ t.pt = 1) : HoleC t (pwS t (1, [])) 7
 | str (hk : t.k = 19) (hl : langM t = 2) (hp : t.pt = 2 ∨ t.pt = 3) : HoleC t (pwS t (t.pt, [])) 8
 | codeA (hk : t.k = 9) (hl : langM t = 2) (hp : t.pt = 0 ∨ t.pt = 1) : HoleC t (pwS t (1, [])) 9
 | strA (hk : t.k = 9) (hl : langM t = 2) (hp : t.pt = 2 ∨ t.pt = 3) : HoleC t (pwS t (t.pt, [])) 10
 | sty (hk : t.k = 18) (hl : langM t = 3) (hp : t.pt = 0) : HoleC t (pwS t (0, [63])) 11
 | styA (hk : t.k = 9) (hl : langM t = 3) (hp : t.pt = 0) : HoleC t (pwS t (0, [63])) 12
theorem urlHole_3 (p : Int) : (p = 0 ∧ urlHole p = (4, 1)) ∨ (p = 2 ∧ urlHole p = (2, 2)) ∨ (p = 3 ∧ urlHole p = (3, 3)) ∨ (urlHole p).2 = 0 := by
 unfold urlHole
 by_cases h0 : p = 0
 · subst h0; exact .inl ⟨rfl, rfl⟩
 by_cases h2 : p = 2
 · subst h2; exact .inr (.inl ⟨rfl, rfl⟩)
 by_cases h3 : p = 3
 · subst h3; exact .inr (.inr (.inl ⟨rfl, rfl⟩))
 rw [beq_false_of_ne h0, beq_false_of_ne h2, beq_false_of_ne h3]
 exact .inr (.inr (.inr rfl))
theorem attr_c {t : SS} (k9 : t.k = 9) (h0 : (inAttrM t).2 ≠ 0) : HoleC t (inAttrM t).1 (inAttrM t).2 := by
 have hl : ∀ n : Int, kindM t = n → n ≤ 3 → langM t = n := fun n hn h3 => by
  unfold langM
  rw [k9, hn]
  show (bif decide (n ≤ 3) then n else 0) = n
  rw [dT h3]; rfl
 unfold inAttrM at *
 cases hs : hpB [47] t.el with
 | true => rw [hs] at h0; exact absurd rfl h0
 | false =>
  rw [hs] at h0
  simp only [cond_false] at h0 ⊢
  by_cases e0 : kindM t = 0
  · rw [e0]; exact .attr k9 (hl 0 e0 (by decide))
  have f0 : (kindM t == 0) = false := by simpa using e0
  rw [f0] at h0 ⊢
  simp only [cond_false] at h0 ⊢
  by_cases e1 : kindM t = 1
  · have l1 := hl 1 e1 (by decide)
    rw [e1] at h0 ⊢
    simp only [beq_self_eq_true, cond_true] at h0 ⊢
    rcases urlHole_3 t.pt with ⟨a, b⟩ | ⟨a, b⟩ | ⟨a, b⟩ | b
    · rw [b]; exact .url0 k9 l1 a
    · rw [b]; exact .url2 k9 l1 a
    · rw [b]; exact .url3 k9 l1 a
    · rw [b] at h0; exact absurd rfl h0
  have f1 : (kindM t == 1) = false := by simpa using e1
  rw [f1] at h0 ⊢
  simp only [cond_false] at h0 ⊢
  by_cases e2 : kindM t = 2
  · have l2 := hl 2 e2 (by decide)
    rw [e2] at h0 ⊢
    simp only [beq_self_eq_true, cond_true] at h0 ⊢
    rcases jsHole_c t.pt with ⟨a, b⟩ | ⟨a, b⟩ | a
    · rw [a]; exact .codeA k9 l2 b
    · rw [a]; exact .strA k9 l2 b
    · rw [a] at h0; exact absurd rfl h0
  have f2 : (kindM t == 2) = false := by simpa using e2
  rw [f2] at h0 ⊢
  simp only [cond_false] at h0 ⊢
  by_cases e3 : kindM t = 3
  · have l3 := hl 3 e3 (by decide)
    rw [e3] at h0 ⊢
    simp only [beq_self_eq_true, cond_true] at h0 ⊢
    cases hp : t.pt == 0 with
    | false => rw [hp] at h0; exact absurd rfl h0
    | true => exact .styA k9 l3 (by simpa using hp)
  have f3 : (kindM t == 3) = false := by simpa using e3
  rw [f3] at h0
  exact absurd rfl h0
theorem holeR_c {t : SS} (h0 : (holeR t).2 ≠ 0) : t.pe = [] ∧ t.rf = [] ∧ HoleC t (holeR t).1 (holeR t).2 := by
 unfold holeR at *
 cases hp : (t.pe == [] && t.rf == []) with
 | false => rw [hp] at h0; exact absurd rfl h0
 | true =>
  rw [hp] at h0
  simp only [cond_true] at h0 ⊢
  simp only [Bool.and_eq_true, beq_iff_eq] at hp
  refine ⟨hp.1, hp.2, ?_⟩
  by_cases k0 : t.k = 0
  · have b0 : (t.k == 0) = true := by simpa using k0
    rw [b0]; exact .data k0
  have b0 : (t.k == 0) = false := by simpa using k0
  by_cases k17 : t.k = 17
  · have b17 : (t.k == 17) = true := by simpa using k17
    rw [b0, b17]; exact .title k17
  have b17 : (t.k == 17) = false := by simpa using k17
  rw [b0, b17] at h0 ⊢
  simp only [cond_false] at h0 ⊢
  by_cases k9 : t.k = 9
  · have b9 : (t.k == 9) = true := by simpa using k9
    rw [b9] at h0 ⊢
    exact attr_c k9 h0
  have b9 : (t.k == 9) = false := by simpa using k9
  rw [b9] at h0 ⊢
  simp only [cond_false] at h0 ⊢
  cases k1819 : (t.k == 18 || t.k == 19) with
  | false => rw [k1819] at h0; exact absurd rfl h0
  | true =>
   rw [k1819] at h0
   simp only [cond_true] at h0 ⊢
   unfold inRawM at *
   by_cases k18 : t.k = 18
   · have b18 : (t.k == 18) = true := by simpa using k18
     rw [b18] at h0 ⊢
     simp only [cond_true] at h0 ⊢
     cases hpt : t.pt == 0 with
     | false => rw [hpt] at h0; exact absurd rfl h0
     | true => exact .sty k18 (by unfold langM; rw [k18]; rfl) (by simpa using hpt)
   · have b18 : (t.k == 18) = false := by simpa using k18
     have k19 : t.k = 19 := by simpa [b18] using k1819
     have l2 : langM t = 2 := by unfold langM; rw [k19]; rfl
     rw [b18] at h0 ⊢
     simp only [cond_false] at h0 ⊢
     rcases jsHole_c t.pt with ⟨a, b⟩ | ⟨a, b⟩ | a
     · rw [a]; exact .code k19 l2 b
     · rw [a]; exact .str k19 l2 b
     · rw [a] at h0; exact absurd rfl h0
theorem holeM_c {t : SS} (h : SInv t) (he : (holeM t).2.2 = 0) : VS t ∧ HoleC t (holeM t).1 (holeM t).2.1 := by
 unfold holeM at *
 rw [h.mark] at *
 simp only [bne_self_eq_false, cond_false] at *
 cases h0 : (holeR t).2 == 0 with
 | true => rw [h0] at he; exact absurd he (show ¬ (91 : Int) = 0 by decide)
 | false =>
  obtain ⟨a, b, c⟩ := holeR_c (t := t) (by simpa using h0)
  exact ⟨⟨h, a, b⟩, c⟩
structure SameP (z u : SS) : Prop where
 k : z.k = u.k
 el : z.el = u.el
 ar : z.ar = u.ar
 dl : z.dl = u.dl
 pe : z.pe = []
 rf : z.rf = []
theorem same_pw {t : SS} (h : VS t) (a b : Int × Bs) : SameP (pwS t a) (pwS t b) := ⟨rfl, rfl, rfl, rfl, h.pe, h.rf⟩
def LeadsTo (u z : SS) (q : Int) : Prop := SameP z u ∧ (4 ≤ q ∧ q ≤ 6 → z.pt ≠ 5) ∧ (10 < q → z.pt = u.pt) ∧ ((q < 4 ∨ (7 ≤ q ∧ q ≤ 10)) → z = u)
theorem rp_ok {s : Bs} (h : ascL s) : rpP s = s := rp_asc h
theorem lit_asc (d : Nat) (v : VaD) : ascL (blnk (litV d v)) := ascL_cons (by decide) (ascL_app (litV_asc d v) (ascL_of (by decide)))
theorem asc60 {s : Bs} (h : ascL s) : ∀ c ∈ s, c ≠ 60 := fun c hc h60 => by
 have := h c hc
 rw [h60] at this
 exact absurd this (by decide)
section
variable {O : Bs → Bs × Nat} {U : Bs → Bool}
set_option maxHeartbeats 2000000 in
theorem leads (hr : Refs6 O U) {t u : SS} {q : Int} (hv : VS t) (hc : HoleC t u q) (hj : JOk t) (d : Nat) (v : VaD) (hw : wfVal d v) (hk : v.kind < 7) : ∃ z, feedL O U t (apT d q v) = (z, (apT d q v).length, 0) ∧ LeadsTo u z q := by
 have hs : safeB q v.kind = false := by
  unfold safeB
  rw [beq_false_of_ne (show v.kind ≠ 7 by omega), beq_false_of_ne (show v.kind ≠ 8 by omega), beq_false_of_ne (show v.kind ≠ 9 by omega), beq_false_of_ne (show v.kind ≠ 10 by omega), beq_false_of_ne (show v.kind ≠ 11 by omega)]
  rfl
 have ht : apT d q v = if q = 7 then blnk (litV d v) else if q = 9 then escP (blnk (litV d v)) else plP q (toV d v) := by
  unfold apT
  rw [hs, if_neg (by simp)]
 have self : ∀ p : Int, t.pt = p → t.wd = [] → pwS t (p, []) = t := fun p hp hw => by unfold pwS; rw [← hp, ← hw]
 have coded : ∀ (s : Bs), kVal t → GoodS t (rpP s) → feedL O U t (escP s) = (runS t (rpP s), (escP s).length, 0) := fun s hk hg => code_feed (code_escP hr s) t hv hk hg
 have same : SameP t t := ⟨rfl, rfl, rfl, rfl, hv.pe, hv.rf⟩
 rw [ht]
 cases hc with
 | data h0 =>
  have hl : langM t = 0 := by unfold langM; rw [h0]; rfl
  have := run0 hl (rpP (toV d v))
  exact ⟨t, (coded (toV d v) (.inl h0) this.1).trans (by rw [this.2]; rfl), same, fun h => by omega, fun h => by omega, fun _ => rfl⟩
 | title h0 =>
  have hl : langM t = 0 := by unfold langM; rw [h0]; rfl
  have := run0 hl (rpP (toV d v))
  exact ⟨t, (coded (toV d v) (.inr (.inl h0)) this.1).trans (by rw [this.2]; rfl), same, fun h => by omega, fun h => by omega, fun _ => rfl⟩
 | attr h0 hl =>
  have := run0 hl (rpP (toV d v))
  exact ⟨t, (coded (toV d v) (.inr (.inr h0)) this.1).trans (by rw [this.2]; rfl), same, fun h => by omega, fun h => by omega, fun _ => rfl⟩
 | url0 h0 hl hp =>
  have := run1 (rpP (schFP (toV d v))) hl (by omega)
  refine ⟨_, (coded (schFP (toV d v)) (.inr (.inr h0)) this.1).trans (by rw [this.2]; rfl), same_pw hv _ _, fun _ => ?_, fun h => by omega, fun h => by omega⟩
  rw [rp_ok (schFP_asc _), hp]
  show (feedP urlStep 0 t.wd (schFP (toV d v))).1 ≠ 5
  have e : ∀ y : Bs, (feedP urlStep 0 t.wd y).1 = (feedP urlStep 0 [] y).1 := fun y => by cases y <;> rfl
  rw [e]
  exact filter_part _
 | url2 h0 hl hp =>
  have := run1 (rpP (normP (toV d v))) hl (by omega)
  exact ⟨_, (coded (normP (toV d v)) (.inr (.inr h0)) this.1).trans (by rw [this.2]; rfl), same_pw hv _ _, fun _ => url_in _ _ _ (.inl hp), fun h => by omega, fun h => by omega⟩
 | url3 h0 hl hp =>
  have := run1 (rpP (pencP (toV d v))) hl (by omega)
  exact ⟨_, (coded (pencP (toV d v)) (.inr (.inr h0)) this.1).trans (by rw [this.2]; rfl), same_pw hv _ _, fun _ => url_in _ _ _ (.inr hp), fun h => by omega, fun h => by omega⟩
 | code h0 hl hp =>
  have := run2 (blnk (litV d v)) hl (blnk_jrun t.wd hp (lit_jl d v hw))
  exact ⟨_, (raw_feed _ t hv (.inr h0) (asc60 (lit_asc d v)) this.1).trans (by rw [this.2]; rfl), same_pw hv _ _, fun h => by omega, fun h => by omega, fun _ => rfl⟩
 | str h0 hl hp =>
  have hw0 : t.wd = [] := by rcases hj with x | x | x | x; exact x; exact absurd hl x; omega; omega
  have := run2 (jsE (toV d v)) hl (by rw [hw0]; exact ins_jrun hp (jsE_ins _))
  exact ⟨_, (raw_feed _ t hv (.inr h0) (asc60 (jsE_asc _)) this.1).trans (by rw [this.2]; rfl), same_pw hv _ _, fun h => by omega, fun h => by omega, fun _ => rfl⟩
 | codeA h0 hl hp =>
  have := run2 (blnk (litV d v)) hl (blnk_jrun t.wd hp (lit_jl d v hw))
  exact ⟨_, (coded (blnk (litV d v)) (.inr (.inr h0)) (by rw [rp_ok (lit_asc d v)]; exact this.1)).trans (by rw [rp_ok (lit_asc d v), this.2]; rfl), same_pw hv _ _, fun h => by omega, fun h => by omega, fun _ => rfl⟩
 | strA h0 hl hp =>
  have hw0 : t.wd = [] := by rcases hj with x | x | x | x; exact x; exact absurd hl x; omega; omega
  have := run2 (jsE (toV d v)) hl (by rw [hw0]; exact ins_jrun hp (jsE_ins _))
  exact ⟨_, (coded (jsE (toV d v)) (.inr (.inr h0)) (by rw [rp_ok (jsE_asc _)]; exact this.1)).trans (by rw [rp_ok (jsE_asc _), this.2]; rfl), same_pw hv _ _, fun h => by omega, fun h => by omega, fun _ => rfl⟩
 | sty h0 hl hp =>
  have hx := cssF_all (toV d v)
  obtain ⟨h1, w, h2⟩ := run3 (cssF (toV d v)) hl hp (fun c hc => (hx c hc).1)
  exact ⟨pwS t (0, w), (raw_feed _ t hv (.inl h0) (fun c hc => (hx c hc).2.1) h1).trans (by rw [h2]; rfl), same_pw hv _ _, fun h => by omega, fun _ => rfl, fun h => by omega⟩
 | styA h0 hl hp =>
  have hx := cssF_all (toV d v)
  have ha : rpP (cssF (toV d v)) = cssF (toV d v) := rp_ok (fun c hc => (hx c hc).2.2)
  obtain ⟨h1, w, h2⟩ := run3 (cssF (toV d v)) hl hp (fun c hc => (hx c hc).1)
  exact ⟨pwS t (0, w), (coded (cssF (toV d v)) (.inr (.inr h0)) (by rw [ha]; exact h1)).trans (by rw [ha, h2]; rfl), same_pw hv _ _, fun h => by omega, fun _ => rfl, fun h => by omega⟩
end
end Go.Mu
namespace Go.Mu
open Go Go.Proofs
def okc (n : Int) : Bool := decide (0 ≤ n) && decide (n < 256)
def c8Told (B : Int → Bool) : FSp := mkFS [.i .u8] (fun xs => okc (aI xs 0)) (fun xs k => k (.ret (.bool (B (aI xs 0))) []))
def pwTold (F : Int → Bs → Int → Int × Bs) : FSp := mkFS [.i .i64, .s, .i .u8] (fun xs => okc (aI xs 2) && decide ((aS xs 1).length ≤ 1048576)) (fun xs k => k (.ret (.tuple [.int .i64 (F (aI xs 0) (aS xs 1) (aI xs 2)).1, .str (F (aI xs 0) (aS xs 1) (aI xs 2)).2]) []))
def enTold (F : Int → Bs → Int) : FSp := mkFS [.i .i64, .s] (fun xs => decide ((aS xs 1).length ≤ 1048576)) (fun xs k => k (.ret (.int .i64 (F (aI xs 0) (aS xs 1))) []))
def wcTold (F : Bs → Int → Int × Bs) : FSp := mkFS [.s, .i .u8] (fun xs => okc (aI xs 1) && decide ((aS xs 0).length ≤ 1048576)) (fun xs k => k (.ret (.tuple [.int .i64 (F (aS xs 0) (aI xs 1)).1, .str (F (aS xs 0) (aI xs 1)).2]) []))
def pcTold (F : Int → Int → Int) : FSp := mkFS [.i .i64, .i .u8] (fun xs => okc (aI xs 1)) (fun xs k => k (.ret (.int .i64 (F (aI xs 0) (aI xs 1))) []))
def spTold (F : Int → Int → Int × Bs) : FSp := mkFS [.i .i64, .i .u8] (fun xs => okc (aI xs 1)) (fun xs k => k (.ret (.tuple [.int .i64 (F (aI xs 0) (aI xs 1)).1, .str (F (aI xs 0) (aI xs 1)).2]) []))
def layC8 (L B : Int → Bool) : Lay := (((Lay.nil.addF 108 lowTold).addF 87 (c8Told L)).addF 89 (c8Told B))
theorem blank_funZ (c : UInt8) (k : Out → Ans) : iFun Tryz.prog (Lay.nil.hd Tryz.prog) Lay.nil.fhs 0 89 [.int .u8 c.toNat] [] k = (
 let n0 : Int := (↑c.toNat : Int);
  k
  (Out.ret
  (AVal.bool
  (bif n0 == 32 then true else bif bif decide (n0 ≥ 9) then decide (n0 ≤ 13) else false then n0 != 11 else false))
   [])) := by kernel_rfl
theorem letter_funZ (c : UInt8) (k : Out → Ans) : iFun Tryz.prog (Lay.nil.hd Tryz.prog) Lay.nil.fhs 0 87 [.int .u8 c.toNat] [] k = (
 let n0 : Int := IntKind.u8.wrap (↑(BitVec.ofInt 8 (↑c.toNat : Int) ||| BitVec.ofInt 8 32).toNat : Int);
  k (Out.ret (AVal.bool (bif decide (n0 ≥ 97) then decide (n0 ≤ 122) else false)) [])) := by kernel_rfl
theorem url_fun (L B : Int → Bool) (p : Int) (w : Bs) (c : UInt8) (k : Out → Ans) : iFun Tryz.prog ((layC8 L B).hd Tryz.prog) (layC8 L B).fhs 0 135 [.int .i64 p, .str w, .int .u8 c.toNat] [] k = (
 let c0 : Bool := p == 0;
 let c1 : Bool := bif c0 then true else p == 1;
 let n2 : Int := (↑c.toNat : Int);
 let c3 : Bool := n2 == 47;
 let c4 : Bool := bif n2 == 63 then true else n2 == 35;
 let c5 : Bool := n2 == 58;
 let v6 : UInt8 := byteOf [AVal.int .u8 n2];
 let c7 : Bool := p == 2;
 let c8 : Bool := p == 4;
 let z1 := Out.ret (AVal.tuple [AVal.int .i64 2, AVal.str []]) [];
 let z2 := Out.ret (AVal.tuple [AVal.int .i64 5, AVal.str []]) [];
 let z3 := Out.ret (AVal.tuple [AVal.int .i64 3, AVal.str []]) [];
 let z0 := bif bif bif c7 then true else c8 then c4 else false then k z3 else bif bif c8 then c3 else false then k z1 else bif bif c8 then c5 else false then k z2 else bif bif bif c7 then true else p == 3 then true else c8 then k (Out.ret (AVal.tuple [AVal.int .i64 p, AVal.str []]) []) else k z2;
  bif c0 then bif c1 then bif c3 then k z1 else bif c4 then k z3 else bif bif c5 then false else false then k z1 else bif c5 then k z2 else k (Out.ret (AVal.tuple [AVal.int .i64 1, AVal.str [lowC v6]]) []) else z0 else bif c1 then bif c3 then k z1 else bif c4 then k z3 else bif bif c5 then bif bif w == [104, 116, 116, 112] then true else w == [104, 116, 116, 112, 115] then true else w == [109, 97, 105, 108, 116, 111] else false then k z1 else bif c5 then k z2 else bif decide ((↑(List.length w) : Int) < 16) then bif decide (List.length w + 1 ≤ 4611686018427387904) then k (Out.ret (AVal.tuple [AVal.int .i64 1, AVal.str (List.append w (lowM [v6]))]) []) else none else k (Out.ret (AVal.tuple [AVal.int .i64 1, AVal.str w]) []) else z0) := by kernel_rfl
end Go.Mu
namespace Go.Mu
open Go Go.Proofs
theorem cswy_fun (L B : Int → Bool) (c : UInt8) (k : Out → Ans) : iFun Tryz.prog ((layC8 L B).hd Tryz.prog) (layC8 L B).fhs 0 157 [.int .u8 c.toNat] [] k = (
 let n0 : Int := (↑c.toNat : Int);
  bif okc n0 then
  k
  (Out.ret
  (AVal.bool
  (bif
  bif bif L n0 then true else bif decide (n0 ≥ 48) then decide (n0 ≤ 57) else false then true
  else n0 == 45 then
  true
  else n0 == 95))
  [])
  else none) := by kernel_rfl
def layCs0 (W L B : Int → Bool) : Lay := (layC8 L B).addF 157 (c8Told W)
theorem cscd_fun (W L B : Int → Bool) (w : Bs) (c : UInt8) (k : Out → Ans) : iFun Tryz.prog ((layCs0 W L B).hd Tryz.prog) (layCs0 W L B).fhs 0 149 [.str w, .int .u8 c.toNat] [] k = (
 let n0 : Int := (↑c.toNat : Int);
 let c1 : Bool := okc n0;
 let c2 : Bool := W n0;
 let c3 : Bool := w == [63];
 let c4 : Bool := n0 == 40;
  bif c1 then bif bif c2 then c3 else false then k (Out.ret (AVal.tuple [AVal.int .i64 0, AVal.str [63]]) []) else bif c1 then bif bif c2 then decide ((↑(List.length w) : Int) < 16) else false then bif decide (List.length w + 1 ≤ 4611686018427387904) then k (Out.ret (AVal.tuple [AVal.int .i64 0, AVal.str (List.append w (lowM [byteOf [AVal.int .u8 n0]]))]) []) else none else bif c1 then bif c2 then k (Out.ret (AVal.tuple [AVal.int .i64 0, AVal.str w]) []) else bif bif c4 then w == [117, 114, 108] else false then k (Out.ret (AVal.tuple [AVal.int .i64 8, AVal.str []]) []) else bif bif bif c4 then c3 else false then true else n0 == 92 then k (Out.ret (AVal.tuple [AVal.int .i64 9, AVal.str []]) []) else bif n0 == 34 then k (Out.ret (AVal.tuple [AVal.int .i64 1, AVal.str []]) []) else bif n0 == 39 then k (Out.ret (AVal.tuple [AVal.int .i64 2, AVal.str []]) []) else bif n0 == 47 then k (Out.ret (AVal.tuple [AVal.int .i64 5, AVal.str []]) []) else k (Out.ret (AVal.tuple [AVal.int .i64 0, AVal.str []]) []) else none else none else none) := by kernel_rfl
theorem csqu_fun (p : Int) (c : UInt8) (k : Out → Ans) : iFun Tryz.prog (Lay.nil.hd Tryz.prog) Lay.nil.fhs 0 150 [.int .i64 p, .int .u8 c.toNat] [] k = (
 let n0 : Int := (↑c.toNat : Int);
  bif bif bif n0 == 34 then p == 1 else false then true else bif n0 == 39 then p == 2 else false then
  k (Out.ret (AVal.int .i64 0) [])
  else
  bif n0 == 92 then k (Out.ret (AVal.int .i64 (IntKind.i64.wrap (p + 2))) [])
  else
  bif bif n0 == 10 then true else n0 == 13 then k (Out.ret (AVal.int .i64 9) [])
  else k (Out.ret (AVal.int .i64 p) [])) := by kernel_rfl
def layCs1 (C : Bs → Int → Int × Bs) : Lay := Lay.nil.addF 149 (wcTold C)
theorem csrm_fun (C : Bs → Int → Int × Bs) (p : Int) (c : UInt8) (k : Out → Ans) : iFun Tryz.prog ((layCs1 C).hd Tryz.prog) (layCs1 C).fhs 0 151 [.int .i64 p, .int .u8 c.toNat] [] k = (
 let c0 : Bool := p == 5;
 let n1 : Int := (↑c.toNat : Int);
 let c2 : Bool := n1 == 42;
 let z0 := Out.ret (AVal.tuple [AVal.int .i64 6, AVal.str []]) [];
  bif bif c0 then c2 else false then k z0 else bif c0 then bif okc n1 && true then k (Out.ret (AVal.tuple [AVal.int .i64 (C [] n1).fst, AVal.str (C [] n1).snd]) []) else none else bif c2 then k (Out.ret (AVal.tuple [AVal.int .i64 7, AVal.str []]) []) else bif bif p == 7 then n1 == 47 else false then k (Out.ret (AVal.tuple [AVal.int .i64 0, AVal.str []]) []) else k z0) := by kernel_rfl
def layCs2 (C : Bs → Int → Int × Bs) (Q : Int → Int → Int) (R : Int → Int → Int × Bs) : Lay := ((layCs1 C).addF 150 (pcTold Q)).addF 151 (spTold R)
theorem csst_fun (C : Bs → Int → Int × Bs) (Q : Int → Int → Int) (R : Int → Int → Int × Bs) (p : Int) (w : Bs) (c : UInt8) (k : Out → Ans) : iFun Tryz.prog ((layCs2 C Q R).hd Tryz.prog) (layCs2 C Q R).fhs 0 137 [.int .i64 p, .str w, .int .u8 c.toNat] [] k = (
 let n0 : Int := (↑c.toNat : Int);
 let c1 : Bool := okc n0;
 let c2 : Bool := p == 1;
 let c3 : Bool := p == 3;
 let c4 : Bool := p == 5;
 let c5 : Bool := p == 6;
 let z1 := bif p == 8 then bif n0 == 41 then k (Out.ret (AVal.tuple [AVal.int .i64 0, AVal.str []]) []) else k (Out.ret (AVal.tuple [AVal.int .i64 8, AVal.str []]) []) else k (Out.ret (AVal.tuple [AVal.int .i64 9, AVal.str []]) []);
 let z3 := bif c1 then k (Out.ret (AVal.tuple [AVal.int .i64 (R p n0).fst, AVal.str (R p n0).snd]) []) else none;
 let z0 := bif c4 then bif c4 then z3 else z1 else bif c5 then bif c5 then z3 else z1 else bif p == 7 then z3 else z1;
 let z2 := Out.ret (AVal.tuple [AVal.int .i64 (IntKind.i64.wrap (p - 2)), AVal.str []]) [];
 let z4 := bif c1 then k (Out.ret (AVal.tuple [AVal.int .i64 (Q p n0), AVal.str []]) []) else none;
 let z5 := bif c3 then bif c3 then k z2 else z0 else bif p == 4 then k z2 else z0;
  bif p == 0 then bif c1 && decide (List.length w ≤ 1048576) then k (Out.ret (AVal.tuple [AVal.int .i64 (C w n0).fst, AVal.str (C w n0).snd]) []) else none else bif c2 then bif c2 then z4 else z5 else bif p == 2 then z4 else z5) := by kernel_rfl
end Go.Mu
namespace Go.Mu
open Go Go.Proofs
theorem jswy_fun (L B : Int → Bool) (c : UInt8) (k : Out → Ans) : iFun Tryz.prog ((layC8 L B).hd Tryz.prog) (layC8 L B).fhs 0 155 [.int .u8 c.toNat] [] k = (
 let n0 : Int := (↑c.toNat : Int);
  bif okc n0 then
  k
  (Out.ret
  (AVal.bool
  (bif
  bif
  bif bif L n0 then true else bif decide (n0 ≥ 48) then decide (n0 ≤ 57) else false then true
  else n0 == 95 then
  true
  else n0 == 36 then
  true
  else decide (n0 > 127)))
  [])
  else none) := by kernel_rfl
def layJs0 (W B : Int → Bool) (E : Int → Bs → Int) : Lay := ((Lay.nil.addF 89 (c8Told B)).addF 155 (c8Told W)).addF 156 (enTold E)
theorem jscd_fun (W B : Int → Bool) (E : Int → Bs → Int) (p : Int) (w : Bs) (c : UInt8) (k : Out → Ans) : iFun Tryz.prog ((layJs0 W B E).hd Tryz.prog) (layJs0 W B E).fhs 0 143 [.int .i64 p, .str w, .int .u8 c.toNat] [] k = (
 let n0 : Int := (↑c.toNat : Int);
 let c1 : Bool := okc n0;
 let c2 : Bool := n0 == 47;
  bif c1 then bif W n0 then bif decide ((↑(List.length w) : Int) < 16) then bif decide (List.length w + 1 ≤ 4611686018427387904) then k (Out.ret (AVal.tuple [AVal.int .i64 1, AVal.str (List.append w [byteOf [AVal.int .u8 n0]])]) []) else none else k (Out.ret (AVal.tuple [AVal.int .i64 1, AVal.str w]) []) else bif decide (List.length w ≤ 1048576) then bif c1 then bif B n0 then k (Out.ret (AVal.tuple [AVal.int .i64 (E p w), AVal.str []]) []) else bif n0 == 34 then k (Out.ret (AVal.tuple [AVal.int .i64 2, AVal.str []]) []) else bif n0 == 39 then k (Out.ret (AVal.tuple [AVal.int .i64 3, AVal.str []]) []) else bif n0 == 96 then k (Out.ret (AVal.tuple [AVal.int .i64 15, AVal.str []]) []) else bif bif c2 then E p w == 0 else false then k (Out.ret (AVal.tuple [AVal.int .i64 13, AVal.str []]) []) else bif c2 then k (Out.ret (AVal.tuple [AVal.int .i64 14, AVal.str []]) []) else bif bif bif n0 == 41 then true else n0 == 93 then true else n0 == 125 then k (Out.ret (AVal.tuple [AVal.int .i64 1, AVal.str []]) []) else k (Out.ret (AVal.tuple [AVal.int .i64 0, AVal.str []]) []) else none else none else none) := by kernel_rfl
theorem jsqu_fun (p : Int) (c : UInt8) (k : Out → Ans) : iFun Tryz.prog (Lay.nil.hd Tryz.prog) Lay.nil.fhs 0 144 [.int .i64 p, .int .u8 c.toNat] [] k = (
 let n0 : Int := (↑c.toNat : Int);
 let c1 : Bool := n0 == 92;
 let z0 := bif bif n0 == 10 then true else n0 == 13 then k (Out.ret (AVal.int .i64 15) []) else k (Out.ret (AVal.int .i64 p) []);
  bif p == 3 then bif n0 == 39 then k (Out.ret (AVal.int .i64 1) []) else bif c1 then k (Out.ret (AVal.int .i64 5) []) else z0 else bif n0 == 34 then k (Out.ret (AVal.int .i64 1) []) else bif c1 then k (Out.ret (AVal.int .i64 4) []) else z0) := by kernel_rfl
theorem jsma_fun (p : Int) (c : UInt8) (k : Out → Ans) : iFun Tryz.prog (Lay.nil.hd Tryz.prog) Lay.nil.fhs 0 147 [.int .i64 p, .int .u8 c.toNat] [] k = (
 let n0 : Int := (↑c.toNat : Int);
 let c1 : Bool := p == 9;
  bif bif n0 == 10 then true else n0 == 13 then k (Out.ret (AVal.int .i64 15) []) else bif n0 == 92 then k (Out.ret (AVal.int .i64 (IntKind.i64.wrap (p + 1))) []) else bif bif c1 then n0 == 47 else false then k (Out.ret (AVal.int .i64 1) []) else bif bif c1 then n0 == 91 else false then k (Out.ret (AVal.int .i64 11) []) else bif bif p == 11 then n0 == 93 else false then k (Out.ret (AVal.int .i64 9) []) else k (Out.ret (AVal.int .i64 p) [])) := by kernel_rfl
theorem jsrm_fun (p : Int) (c : UInt8) (k : Out → Ans) : iFun Tryz.prog (Lay.nil.hd Tryz.prog) Lay.nil.fhs 0 146 [.int .i64 p, .int .u8 c.toNat] [] k = (
 let n0 : Int := (↑c.toNat : Int);
  bif n0 == 42 then k (Out.ret (AVal.int .i64 8) [])
  else
  bif bif p == 8 then n0 == 47 else false then k (Out.ret (AVal.int .i64 0) [])
  else k (Out.ret (AVal.int .i64 7) [])) := by kernel_rfl
def layJs1 (C : Int → Bs → Int → Int × Bs) (M : Int → Int → Int) : Lay := (Lay.nil.addF 143 (pwTold C)).addF 147 (pcTold M)
theorem jssl_fun (C : Int → Bs → Int → Int × Bs) (M : Int → Int → Int) (p : Int) (c : UInt8) (k : Out → Ans) : iFun Tryz.prog ((layJs1 C M).hd Tryz.prog) (layJs1 C M).fhs 0 148 [.int .i64 p, .int .u8 c.toNat] [] k = (
 let n0 : Int := (↑c.toNat : Int);
 let c1 : Bool := okc n0;
  bif n0 == 47 then k (Out.ret (AVal.tuple [AVal.int .i64 6, AVal.str []]) [])
  else
  bif n0 == 42 then k (Out.ret (AVal.tuple [AVal.int .i64 7, AVal.str []]) [])
  else
  bif p == 13 then bif c1 then k (Out.ret (AVal.tuple [AVal.int .i64 (M 9 n0), AVal.str []]) []) else none
  else
  bif c1 && true then k (Out.ret (AVal.tuple [AVal.int .i64 (C 0 [] n0).fst, AVal.str (C 0 [] n0).snd]) [])
  else none) := by kernel_rfl
def layJs2 (C : Int → Bs → Int → Int × Bs) (M Q R : Int → Int → Int) (S : Int → Int → Int × Bs) : Lay := (((layJs1 C M).addF 144 (pcTold Q)).addF 146 (pcTold R)).addF 148 (spTold S)
theorem jsst_fun (C : Int → Bs → Int → Int × Bs) (M Q R : Int → Int → Int) (S : Int → Int → Int × Bs) (p : Int) (w : Bs) (c : UInt8) (k : Out → Ans) : iFun Tryz.prog ((layJs2 C M Q R S).hd Tryz.prog) (layJs2 C M Q R S).fhs 0 136 [.int .i64 p, .str w, .int .u8 c.toNat] [] k = (
 let c0 : Bool := p == 0;
 let n1 : Int := (↑c.toNat : Int);
 let c2 : Bool := okc n1;
 let c3 : Bool := p == 2;
 let c4 : Bool := p == 4;
 let c5 : Bool := p == 7;
 let c6 : Bool := p == 9;
 let c7 : Bool := p == 10;
 let c8 : Bool := p == 13;
 let z7 := bif c2 then k (Out.ret (AVal.tuple [AVal.int .i64 (S p n1).fst, AVal.str (S p n1).snd]) []) else none;
 let z13 := Out.ret (AVal.tuple [AVal.int .i64 15, AVal.str []]) [];
 let z3 := bif c8 then bif c8 then z7 else k z13 else bif p == 14 then z7 else k z13;
 let z10 := Out.ret (AVal.tuple [AVal.int .i64 (IntKind.i64.wrap (p - 1)), AVal.str []]) [];
 let z1 := bif c7 then bif c7 then k z10 else z3 else bif p == 12 then k z10 else z3;
 let z4 := bif c2 then k (Out.ret (AVal.tuple [AVal.int .i64 (M p n1), AVal.str []]) []) else none;
 let z8 := bif c2 then k (Out.ret (AVal.tuple [AVal.int .i64 (R p n1), AVal.str []]) []) else none;
 let z12 := bif c6 then bif c6 then z4 else z1 else bif p == 11 then z4 else z1;
 let z0 := bif p == 6 then bif bif n1 == 10 then true else n1 == 13 then k (Out.ret (AVal.tuple [AVal.int .i64 0, AVal.str []]) []) else k (Out.ret (AVal.tuple [AVal.int .i64 6, AVal.str []]) []) else bif c5 then bif c5 then z8 else z12 else bif p == 8 then z8 else z12;
 let z5 := Out.ret (AVal.tuple [AVal.int .i64 (IntKind.i64.wrap (p - 2)), AVal.str []]) [];
 let z9 := bif c2 then k (Out.ret (AVal.tuple [AVal.int .i64 (Q p n1), AVal.str []]) []) else none;
 let z11 := bif c4 then bif c4 then k z5 else z0 else bif p == 5 then k z5 else z0;
 let z2 := bif c3 then bif c3 then z9 else z11 else bif p == 3 then z9 else z11;
 let z6 := bif c2 && decide (List.length w ≤ 1048576) then k (Out.ret (AVal.tuple [AVal.int .i64 (C p w n1).fst, AVal.str (C p w n1).snd]) []) else none;
  bif c0 then bif c0 then z6 else z2 else bif p == 1 then z6 else z2) := by kernel_rfl
end Go.Mu
namespace Go.Mu
open Go Go.Proofs
theorem elm_fun (s : Bs) (k : Out → Ans) : iFun Tryz.prog (Lay.nil.hd Tryz.prog) Lay.nil.fhs 0 122 [.str s] [] k = (
 let c0 : Bool := s == [116, 105, 116, 108, 101];
 let c1 : Bool := s == [112, 108, 97, 105, 110, 116, 101, 120, 116];
 let c2 : Bool := s == [120, 109, 112];
 let c3 : Bool := s == [105, 102, 114, 97, 109, 101];
 let c4 : Bool := s == [110, 111, 101, 109, 98, 101, 100];
 let c5 : Bool := s == [110, 111, 102, 114, 97, 109, 101, 115];
 let z1 := Out.ret (AVal.int .i64 4) [];
 let z2 := Out.ret (AVal.int .i64 0) [];
 let z0 := bif s == [115, 116, 121, 108, 101] then k (Out.ret (AVal.int .i64 2) []) else bif s == [115, 99, 114, 105, 112, 116] then k (Out.ret (AVal.int .i64 3) []) else bif c1 then bif c1 then k z1 else k z2 else bif c2 then bif c2 then k z1 else k z2 else bif c3 then bif c3 then k z1 else k z2 else bif c4 then bif c4 then k z1 else k z2 else bif c5 then bif c5 then k z1 else k z2 else bif s == [110, 111, 115, 99, 114, 105, 112, 116] then k z1 else k z2;
  bif c0 then bif c0 then k (Out.ret (AVal.int .i64 1) []) else z0 else bif s == [116, 101, 120, 116, 97, 114, 101, 97] then k (Out.ret (AVal.int .i64 1) []) else z0) := by kernel_rfl
theorem starts_fun (s a : Bs) (k : Out → Ans) : iFun Tryz.prog ((Lay.nil.addF 108 lowTold).hd Tryz.prog) (Lay.nil.addF 108 lowTold).fhs 0 123 [.str s, .str a] [] k = (
 let n0 : Int := (↑(List.length a) : Int);
 let n1 : Int := (↑(List.length s) : Int);
 let c2 : Bool := decide (n1 ≥ n0);
 let l3 : List UInt8 := List.drop (Int.toNat 0) (List.take n0.toNat s);
  bif decide (n0 ≤ n1) || !c2 then
  bif decide (l3.length ≤ 1099511627776) then
  bif decide (List.length a ≤ 1099511627776) then
  k (Out.ret (AVal.bool (bif c2 then lowM l3 == lowM a else false)) [])
  else none
  else none
  else none) := by kernel_rfl
theorem atr_fun (s a : Bs) (k : Out → Ans) : iFun Tryz.prog (Lay.nil.hd Tryz.prog) Lay.nil.fhs 0 60 [.str s, .str a] [] k = (
 let c0 : Bool := a == [104, 114, 101, 102];
 let c1 : Bool := a == [115, 114, 99, 100, 111, 99];
 let n2 : Int := (↑(List.length a) : Int);
 let c3 : Bool := decide (n2 ≥ 2);
 let c4 : Bool := decide (n2 ≥ 5);
 let c5 : Bool := a == [115, 114, 99, 115, 101, 116];
 let c6 : Bool := a == [104, 116, 116, 112, 45, 101, 113, 117, 105, 118];
 let c7 : Bool := a == [112, 105, 110, 103];
 let c8 : Bool := a == [115, 114, 99];
 let c9 : Bool := a == [97, 99, 116, 105, 111, 110];
 let c10 : Bool := a == [102, 111, 114, 109, 97, 99, 116, 105, 111, 110];
 let c11 : Bool := a == [99, 105, 116, 101];
 let c12 : Bool := a == [112, 111, 115, 116, 101, 114];
 let c13 : Bool := a == [98, 97, 99, 107, 103, 114, 111, 117, 110, 100];
 let c14 : Bool := a == [108, 111, 110, 103, 100, 101, 115, 99];
 let c15 : Bool := a == [109, 97, 110, 105, 102, 101, 115, 116];
 let z3 := Out.ret (AVal.int .i64 4) [];
 let z1 := bif decide (2 ≤ n2) || !c3 then bif bif c3 then List.drop (Int.toNat 0) (List.take (Int.toNat 2) a) == [111, 110] else false then k (Out.ret (AVal.int .i64 2) []) else bif decide (5 ≤ n2) || !c4 then bif bif c4 then List.drop (Int.toNat 0) (List.take (Int.toNat 5) a) == [120, 109, 108, 110, 115] else false then k z3 else k (Out.ret (AVal.int .i64 0) []) else none else none;
 let z2 := Out.ret (AVal.int .i64 1) [];
 let z0 := bif a == [100, 97, 116, 97] then bif s == [111, 98, 106, 101, 99, 116] then k z2 else k (Out.ret (AVal.int .i64 0) []) else bif a == [115, 116, 121, 108, 101] then k (Out.ret (AVal.int .i64 3) []) else bif c1 then bif c1 then k z3 else z1 else bif c5 then bif c5 then k z3 else z1 else bif c6 then bif c6 then k z3 else z1 else bif c7 then bif c7 then k z3 else z1 else bif a == [] then k z3 else z1;
  bif c0 then bif c0 then k z2 else z0 else bif c8 then bif c8 then k z2 else z0 else bif c9 then bif c9 then k z2 else z0 else bif c10 then bif c10 then k z2 else z0 else bif c11 then bif c11 then k z2 else z0 else bif c12 then bif c12 then k z2 else z0 else bif c13 then bif c13 then k z2 else z0 else bif c14 then bif c14 then k z2 else z0 else bif c15 then bif c15 then k z2 else z0 else bif a == [105, 99, 111, 110] then k z2 else z0) := by kernel_rfl
end Go.Mu
namespace Go.Mu
open Go Go.Proofs
def u8 (n : Int) : UInt8 := UInt8.ofNat n.toNat
theorem u8_back (c : UInt8) : u8 (c.toNat : Int) = c := by unfold u8; simp
theorem okc_u8 (c : UInt8) : okc (c.toNat : Int) = true := by
 have := c.toNat_lt
 unfold okc
 rw [dT (by omega), dT (by omega)]; rfl
theorem okc_is {n : Int} (h : okc n = true) : ∃ c : UInt8, n = (c.toNat : Int) := by
 unfold okc at h
 simp only [Bool.and_eq_true, decide_eq_true_eq] at h
 refine ⟨UInt8.ofNat n.toNat, ?_⟩
 rw [UInt8.toNat_ofNat_of_lt' (by show n.toNat < 256; omega)]
 omega
theorem bif_split {b : Bool} {x y z : Ans} (h1 : b = true → x = z) (h2 : b = false → y = z) : (bif b then x else y) = z := by
 cases b
 · exact h2 rfl
 · exact h1 rfl
theorem eqk (c d : UInt8) {n : Int} (h : n = (d.toNat : Int)) : ((c.toNat : Int) == n) = (c == d) := by
 rw [h, Bool.eq_iff_iff]
 simp only [beq_iff_eq, ← UInt8.toNat_inj]
 omega
theorem ek10 (c : UInt8) : ((c.toNat : Int) == 10) = (c == 10) := eqk c 10 rfl
theorem ek13 (c : UInt8) : ((c.toNat : Int) == 13) = (c == 13) := eqk c 13 rfl
theorem ek33 (c : UInt8) : ((c.toNat : Int) == 33) = (c == 33) := eqk c 33 rfl
theorem ek34 (c : UInt8) : ((c.toNat : Int) == 34) = (c == 34) := eqk c 34 rfl
theorem ek35 (c : UInt8) : ((c.toNat : Int) == 35) = (c == 35) := eqk c 35 rfl
theorem ek36 (c : UInt8) : ((c.toNat : Int) == 36) = (c == 36) := eqk c 36 rfl
theorem ek38 (c : UInt8) : ((c.toNat : Int) == 38) = (c == 38) := eqk c 38 rfl
theorem ek39 (c : UInt8) : ((c.toNat : Int) == 39) = (c == 39) := eqk c 39 rfl
theorem ek40 (c : UInt8) : ((c.toNat : Int) == 40) = (c == 40) := eqk c 40 rfl
theorem ek41 (c : UInt8) : ((c.toNat : Int) == 41) = (c == 41) := eqk c 41 rfl
theorem ek42 (c : UInt8) : ((c.toNat : Int) == 42) = (c == 42) := eqk c 42 rfl
theorem ek45 (c : UInt8) : ((c.toNat : Int) == 45) = (c == 45) := eqk c 45 rfl
theorem ek47 (c : UInt8) : ((c.toNat : Int) == 47) = (c == 47) := eqk c 47 rfl
theorem ek58 (c : UInt8) : ((c.toNat : Int) == 58) = (c == 58) := eqk c 58 rfl
theorem ek60 (c : UInt8) : ((c.toNat : Int) == 60) = (c == 60) := eqk c 60 rfl
theorem ek62 (c : UInt8) : ((c.toNat : Int) == 62) = (c == 62) := eqk c 62 rfl
theorem ek63 (c : UInt8) : ((c.toNat : Int) == 63) = (c == 63) := eqk c 63 rfl
theorem ek91 (c : UInt8) : ((c.toNat : Int) == 91) = (c == 91) := eqk c 91 rfl
theorem ek92 (c : UInt8) : ((c.toNat : Int) == 92) = (c == 92) := eqk c 92 rfl
theorem ek93 (c : UInt8) : ((c.toNat : Int) == 93) = (c == 93) := eqk c 93 rfl
theorem ek95 (c : UInt8) : ((c.toNat : Int) == 95) = (c == 95) := eqk c 95 rfl
theorem ek96 (c : UInt8) : ((c.toNat : Int) == 96) = (c == 96) := eqk c 96 rfl
theorem ek125 (c : UInt8) : ((c.toNat : Int) == 125) = (c == 125) := eqk c 125 rfl
theorem c8Told_ok {f : FuncId} {B : Int → Bool} (h : ∀ c : UInt8, CallOK Tryz.prog f [.int .u8 c.toNat] [] (.ret (.bool (B c.toNat)) [])) : ∀ xs H k out, c8Told B xs H k = some out → ∃ o, CallOK Tryz.prog f xs H o ∧ k o = some out := mkFS_ok fun ys xs e hk => by
 obtain ⟨n, rfl⟩ : ∃ n, xs = [.int .u8 n] := ⟨_, e⟩
 obtain ⟨c, rfl⟩ := okc_is hk
 exact ⟨_, fun k => rfl, h c⟩
theorem pwTold_ok {f : FuncId} {F : Int → Bs → Int → Int × Bs} (h : ∀ p w (c : UInt8), w.length ≤ 1048576 → CallOK Tryz.prog f [.int .i64 p, .str w, .int .u8 c.toNat] [] (.ret (.tuple [.int .i64 (F p w c.toNat).1, .str (F p w c.toNat).2]) [])) : ∀ xs H k out, pwTold F xs H k = some out → ∃ o, CallOK Tryz.prog f xs H o ∧ k o = some out := mkFS_ok fun ys xs e hk => by
 obtain ⟨p, w, n, rfl⟩ : ∃ p w n, xs = [.int .i64 p, .str w, .int .u8 n] := ⟨_, _, _, e⟩
 simp only [Bool.and_eq_true] at hk
 obtain ⟨c, e2⟩ := okc_is hk.1
 have e2 : n = (c.toNat : Int) := e2
 subst e2
 exact ⟨_, fun k => rfl, h p w c (of_decide_eq_true hk.2)⟩
theorem wcTold_ok {f : FuncId} {F : Bs → Int → Int × Bs} (h : ∀ w (c : UInt8), w.length ≤ 1048576 → CallOK Tryz.prog f [.str w, .int .u8 c.toNat] [] (.ret (.tuple [.int .i64 (F w c.toNat).1, .str (F w c.toNat).2]) [])) : ∀ xs H k out, wcTold F xs H k = some out → ∃ o, CallOK Tryz.prog f xs H o ∧ k o = some out := mkFS_ok fun ys xs e hk => by
 obtain ⟨w, n, rfl⟩ : ∃ w n, xs = [.str w, .int .u8 n] := ⟨_, _, e⟩
 simp only [Bool.and_eq_true] at hk
 obtain ⟨c, e2⟩ := okc_is hk.1
 have e2 : n = (c.toNat : Int) := e2
 subst e2
 exact ⟨_, fun k => rfl, h w c (of_decide_eq_true hk.2)⟩
theorem pcTold_ok {f : FuncId} {F : Int → Int → Int} (h : ∀ p (c : UInt8), CallOK Tryz.prog f [.int .i64 p, .int .u8 c.toNat] [] (.ret (.int .i64 (F p c.toNat)) [])) : ∀ xs H k out, pcTold F xs H k = some out → ∃ o, CallOK Tryz.prog f xs H o ∧ k o = some out := mkFS_ok fun ys xs e hk => by
 obtain ⟨p, n, rfl⟩ : ∃ p n, xs = [.int .i64 p, .int .u8 n] := ⟨_, _, e⟩
 obtain ⟨c, e2⟩ := okc_is hk
 have e2 : n = (c.toNat : Int) := e2
 subst e2
 exact ⟨_, fun k => rfl, h p c⟩
theorem spTold_ok {f : FuncId} {F : Int → Int → Int × Bs} (h : ∀ p (c : UInt8), CallOK Tryz.prog f [.int .i64 p, .int .u8 c.toNat] [] (.ret (.tuple [.int .i64 (F p c.toNat).1, .str (F p c.toNat).2]) [])) : ∀ xs H k out, spTold F xs H k = some out → ∃ o, CallOK Tryz.prog f xs H o ∧ k o = some out := mkFS_ok fun ys xs e hk => by
 obtain ⟨p, n, rfl⟩ : ∃ p n, xs = [.int .i64 p, .int .u8 n] := ⟨_, _, e⟩
 obtain ⟨c, e2⟩ := okc_is hk
 have e2 : n = (c.toNat : Int) := e2
 subst e2
 exact ⟨_, fun k => rfl, h p c⟩
def blankR (n : Int) : Bool := blankB (u8 n)
def letterR (n : Int) : Bool := letterB (u8 n)
theorem blank_all : ∀ n : Fin 256, (bif ((n.val : Int) == 32) then true else bif bif decide ((n.val : Int) ≥ 9) then decide ((n.val : Int) ≤ 13) else false then (n.val : Int) != 11 else false) = blankB (UInt8.ofNat n.val) := by decide +kernel
theorem letter_all : ∀ n : Fin 256, (bif decide (IntKind.u8.wrap (((BitVec.ofInt 8 (n.val : Int) ||| BitVec.ofInt 8 32).toNat : Nat) : Int) ≥ 97) then decide (IntKind.u8.wrap (((BitVec.ofInt 8 (n.val : Int) ||| BitVec.ofInt 8 32).toNat : Nat) : Int) ≤ 122) else false) = letterB (UInt8.ofNat n.val) := by decide +kernel
theorem u8_nat (c : UInt8) : UInt8.ofNat c.toNat = c := by simp
theorem blank_ok (c : UInt8) : CallOK Tryz.prog 89 [.int .u8 c.toNat] [] (.ret (.bool (blankR c.toNat)) []) := Lay.nil_ok.callF (G := []) rfl (fun k => by
 refine (blank_funZ c k).trans ?_
 have := blank_all ⟨c.toNat, c.toNat_lt⟩
 simp only [u8_nat] at this
 unfold blankR
 rw [u8_back, ← this])
theorem letter_ok (c : UInt8) : CallOK Tryz.prog 87 [.int .u8 c.toNat] [] (.ret (.bool (letterR c.toNat)) []) := Lay.nil_ok.callF (G := []) rfl (fun k => by
 refine (letter_funZ c k).trans ?_
 have := letter_all ⟨c.toNat, c.toNat_lt⟩
 simp only [u8_nat] at this
 unfold letterR
 rw [u8_back, ← this])
theorem blankT_ok : ∀ xs H k out, c8Told blankR xs H k = some out → ∃ o, CallOK Tryz.prog 89 xs H o ∧ k o = some out := c8Told_ok blank_ok
theorem letterT_ok : ∀ xs H k out, c8Told letterR xs H k = some out → ∃ o, CallOK Tryz.prog 87 xs H o ∧ k o = some out := c8Told_ok letter_ok
theorem layC8_ok : (layC8 letterR blankR).OK Tryz.prog := ((Lay.nil_ok.addF lowTold_ok).addF letterT_ok).addF blankT_ok
theorem low_all : ∀ n : Fin 256, lowC (UInt8.ofNat n.val) = smallB (UInt8.ofNat n.val) := by decide +kernel
theorem low_small (c : UInt8) : lowC c = smallB c := by
 have := low_all ⟨c.toNat, c.toNat_lt⟩
 simp only [u8_nat] at this
 exact this
theorem lowM_small (s : Bs) : lowM s = s.map smallB := by
 unfold lowM
 exact congrArg (fun f => s.map f) (funext low_small)
theorem byteOf_u8 (c : UInt8) : byteOf [AVal.int .u8 (c.toNat : Int)] = c := by
 unfold byteOf
 simp [intOf]
theorem byteOf1 (c : UInt8) : lowM [byteOf [AVal.int .u8 (c.toNat : Int)]] = [smallB c] := by rw [byteOf_u8, lowM_small]; rfl
theorem low1 (c : UInt8) : lowC (byteOf [AVal.int .u8 (c.toNat : Int)]) = smallB c := by rw [byteOf_u8, low_small]
def urlP (p : Int) (w : Bs) (n : Int) : Int × Bs := urlStep p w (u8 n)
theorem url_ok (p : Int) (w : Bs) (c : UInt8) (hw : w.length ≤ 1048576) : CallOK Tryz.prog 135 [.int .i64 p, .str w, .int .u8 c.toNat] [] (.ret (.tuple [.int .i64 (urlP p w c.toNat).1, .str (urlP p w c.toNat).2]) []) := layC8_ok.callF (G := []) rfl (fun k => by
 refine (url_fun letterR blankR p w c k).trans ?_
 unfold urlP
 have g : decide (w.length + 1 ≤ 4611686018427387904) = true := dT (by omega)
 have g2 : (decide (((w.length : Nat) : Int) < 16)) = decide (w.length < 16) := by rw [decide_eq_decide]; omega
 simp only [u8_back, ek47, ek63, ek35, ek58, g, g2, byteOf1, low1]
 repeat' (with_reducible apply bif_split <;> intro _)
 all_goals first | (simp_all [urlStep, urlFirst, allowedB, Bool.cond_eq_ite]; done) | (simp only [urlStep, urlFirst, allowedB, Bool.cond_eq_ite, Bool.and_eq_true, Bool.or_eq_true, beq_iff_eq, decide_eq_true_eq] at *; grind))
end Go.Mu
namespace Go.Mu
open Go Go.Proofs
theorem dge (c : UInt8) (n : Nat) : decide ((c.toNat : Int) ≥ (n : Int)) = decide (n ≤ c.toNat) := by rw [decide_eq_decide]; omega
theorem dge48 (c : UInt8) : decide ((c.toNat : Int) ≥ 48) = decide (48 ≤ c.toNat) := dge c 48
theorem dle57 (c : UInt8) : decide ((c.toNat : Int) ≤ 57) = decide (c.toNat ≤ 57) := by rw [decide_eq_decide]; omega
theorem dgt127 (c : UInt8) : decide ((c.toNat : Int) > 127) = decide (127 < c.toNat) := by rw [decide_eq_decide]; omega
theorem dl16 (w : Bs) : (decide (((w.length : Nat) : Int) < 16)) = decide (w.length < 16) := by rw [decide_eq_decide]; omega
theorem letterR_u8 (c : UInt8) : letterR (c.toNat : Int) = letterB c := by unfold letterR; rw [u8_back]
theorem blankR_u8 (c : UInt8) : blankR (c.toNat : Int) = blankB c := by unfold blankR; rw [u8_back]
def cswyR (n : Int) : Bool := csWordy (u8 n)
theorem cswy_ok (c : UInt8) : CallOK Tryz.prog 157 [.int .u8 c.toNat] [] (.ret (.bool (cswyR c.toNat)) []) := layC8_ok.callF (G := []) rfl (fun k => by
 refine (cswy_fun letterR blankR c k).trans ?_
 unfold cswyR csWordy digitB
 simp only [u8_back, okc_u8, ek10, ek13, ek34, ek35, ek36, ek39, ek40, ek41, ek42, ek45, ek47, ek58, ek63, ek91, ek92, ek93, ek95, ek96, ek125, letterR_u8, dge48, dle57, cond_true, bif_and, bif_or])
theorem layCs0_ok : (layCs0 cswyR letterR blankR).OK Tryz.prog := layC8_ok.addF (c8Told_ok cswy_ok)
theorem cswyR_u8 (c : UInt8) : cswyR (c.toNat : Int) = csWordy c := by unfold cswyR; rw [u8_back]
def cscdP (w : Bs) (n : Int) : Int × Bs := csCode w (u8 n)
theorem cscd_ok (w : Bs) (c : UInt8) (hw : w.length ≤ 1048576) : CallOK Tryz.prog 149 [.str w, .int .u8 c.toNat] [] (.ret (.tuple [.int .i64 (cscdP w c.toNat).1, .str (cscdP w c.toNat).2]) []) := layCs0_ok.callF (G := []) rfl (fun k => by
 refine (cscd_fun cswyR letterR blankR w c k).trans ?_
 unfold cscdP
 have g : decide (w.length + 1 ≤ 4611686018427387904) = true := dT (by omega)
 simp only [u8_back, okc_u8, ek10, ek13, ek34, ek35, ek36, ek39, ek40, ek41, ek42, ek45, ek47, ek58, ek63, ek91, ek92, ek93, ek95, ek96, ek125, cswyR_u8, byteOf1, dl16, g, cond_true]
 repeat' (with_reducible apply bif_split <;> intro _)
 all_goals first | (simp_all [csCode, Bool.cond_eq_ite]; done) | (simp only [csCode, Bool.cond_eq_ite, Bool.and_eq_true, Bool.or_eq_true, beq_iff_eq, decide_eq_true_eq] at *; grind))
def csquP (p n : Int) : Int := csQuoted p (u8 n)
theorem csqu_ok (p : Int) (c : UInt8) : CallOK Tryz.prog 150 [.int .i64 p, .int .u8 c.toNat] [] (.ret (.int .i64 (csquP p c.toNat)) []) := Lay.nil_ok.callF (G := []) rfl (fun k => by
 refine (csqu_fun p c k).trans ?_
 unfold csquP
 simp only [u8_back, okc_u8, ek10, ek13, ek34, ek35, ek36, ek39, ek40, ek41, ek42, ek45, ek47, ek58, ek63, ek91, ek92, ek93, ek95, ek96, ek125]
 repeat' (with_reducible apply bif_split <;> intro _)
 all_goals first | (simp_all [csQuoted, nlB, Bool.cond_eq_ite]; done) | (simp only [csQuoted, nlB, Bool.cond_eq_ite, Bool.and_eq_true, Bool.or_eq_true, beq_iff_eq, decide_eq_true_eq] at *; grind))
theorem layCs1_ok : (layCs1 cscdP).OK Tryz.prog := Lay.nil_ok.addF (wcTold_ok cscd_ok)
def csrmP (p n : Int) : Int × Bs := csRemark p (u8 n)
theorem csrm_ok (p : Int) (c : UInt8) : CallOK Tryz.prog 151 [.int .i64 p, .int .u8 c.toNat] [] (.ret (.tuple [.int .i64 (csrmP p c.toNat).1, .str (csrmP p c.toNat).2]) []) := layCs1_ok.callF (G := []) rfl (fun k => by
 refine (csrm_fun cscdP p c k).trans ?_
 have e : cscdP [] (c.toNat : Int) = csCode [] c := by unfold cscdP; rw [u8_back]
 unfold csrmP
 simp only [u8_back, okc_u8, ek10, ek13, ek34, ek35, ek36, ek39, ek40, ek41, ek42, ek45, ek47, ek58, ek63, ek91, ek92, ek93, ek95, ek96, ek125, e, Bool.and_true, cond_true]
 repeat' (with_reducible apply bif_split <;> intro _)
 all_goals first | (simp_all [csRemark, Bool.cond_eq_ite]; done) | (simp only [csRemark, Bool.cond_eq_ite, Bool.and_eq_true, Bool.or_eq_true, beq_iff_eq, decide_eq_true_eq] at *; grind))
theorem layCs2_ok : (layCs2 cscdP csquP csrmP).OK Tryz.prog := (layCs1_ok.addF (pcTold_ok csqu_ok)).addF (spTold_ok csrm_ok)
def csstP (p : Int) (w : Bs) (n : Int) : Int × Bs := csStep p w (u8 n)
theorem csst_ok (p : Int) (w : Bs) (c : UInt8) (hw : w.length ≤ 1048576) : CallOK Tryz.prog 137 [.int .i64 p, .str w, .int .u8 c.toNat] [] (.ret (.tuple [.int .i64 (csstP p w c.toNat).1, .str (csstP p w c.toNat).2]) []) := layCs2_ok.callF (G := []) rfl (fun k => by
 refine (csst_fun cscdP csquP csrmP p w c k).trans ?_
 have e1 : cscdP w (c.toNat : Int) = csCode w c := by unfold cscdP; rw [u8_back]
 have e2 : csquP p (c.toNat : Int) = csQuoted p c := by unfold csquP; rw [u8_back]
 have e3 : csrmP p (c.toNat : Int) = csRemark p c := by unfold csrmP; rw [u8_back]
 have e4 : (p = 3 ∨ p = 4) → IntKind.i64.wrap (p - 2) = p - 2 := fun h => wrap_of (by omega) (by omega)
 unfold csstP
 simp only [u8_back, okc_u8, ek10, ek13, ek34, ek35, ek36, ek39, ek40, ek41, ek42, ek45, ek47, ek58, ek63, ek91, ek92, ek93, ek95, ek96, ek125, e1, e2, e3, dT hw, Bool.and_true, cond_true]
 repeat' (with_reducible apply bif_split <;> intro _)
 all_goals first | (simp_all [csStep, Bool.cond_eq_ite]; done) | (simp only [csStep, Bool.cond_eq_ite, Bool.and_eq_true, Bool.or_eq_true, beq_iff_eq, decide_eq_true_eq] at *; grind))
def jswyR (n : Int) : Bool := jsWordy (u8 n)
theorem jswy_ok (c : UInt8) : CallOK Tryz.prog 155 [.int .u8 c.toNat] [] (.ret (.bool (jswyR c.toNat)) []) := layC8_ok.callF (G := []) rfl (fun k => by
 refine (jswy_fun letterR blankR c k).trans ?_
 unfold jswyR jsWordy digitB
 simp only [u8_back, okc_u8, ek10, ek13, ek34, ek35, ek36, ek39, ek40, ek41, ek42, ek45, ek47, ek58, ek63, ek91, ek92, ek93, ek95, ek96, ek125, letterR_u8, dge48, dle57, dgt127, cond_true, bif_and, bif_or])
theorem jswyR_u8 (c : UInt8) : jswyR (c.toNat : Int) = jsWordy c := by unfold jswyR; rw [u8_back]
theorem byteOf0 (c : UInt8) : [byteOf [AVal.int .u8 (c.toNat : Int)]] = [c] := by rw [byteOf_u8]
theorem jsqu_ok (p : Int) (c : UInt8) : CallOK Tryz.prog 144 [.int .i64 p, .int .u8 c.toNat] [] (.ret (.int .i64 (jsQuoted p (u8 c.toNat))) []) := Lay.nil_ok.callF (G := []) rfl (fun k => by
 refine (jsqu_fun p c k).trans ?_
 simp only [u8_back, okc_u8, ek10, ek13, ek34, ek35, ek36, ek39, ek40, ek41, ek42, ek45, ek47, ek58, ek63, ek91, ek92, ek93, ek95, ek96, ek125]
 repeat' (with_reducible apply bif_split <;> intro _)
 all_goals first | (simp_all [jsQuoted, nlB, Bool.cond_eq_ite]; done) | (simp only [jsQuoted, nlB, Bool.cond_eq_ite, Bool.and_eq_true, Bool.or_eq_true, beq_iff_eq, decide_eq_true_eq] at *; grind))
theorem jsma_ok (p : Int) (c : UInt8) : CallOK Tryz.prog 147 [.int .i64 p, .int .u8 c.toNat] [] (.ret (.int .i64 (jsMatched p (u8 c.toNat))) []) := Lay.nil_ok.callF (G := []) rfl (fun k => by
 refine (jsma_fun p c k).trans ?_
 simp only [u8_back, okc_u8, ek10, ek13, ek34, ek35, ek36, ek39, ek40, ek41, ek42, ek45, ek47, ek58, ek63, ek91, ek92, ek93, ek95, ek96, ek125]
 repeat' (with_reducible apply bif_split <;> intro _)
 all_goals first | (simp_all [jsMatched, nlB, Bool.cond_eq_ite]; done) | (simp only [jsMatched, nlB, Bool.cond_eq_ite, Bool.and_eq_true, Bool.or_eq_true, beq_iff_eq, decide_eq_true_eq] at *; grind))
theorem jsrm_ok (p : Int) (c : UInt8) : CallOK Tryz.prog 146 [.int .i64 p, .int .u8 c.toNat] [] (.ret (.int .i64 (jsRemark p (u8 c.toNat))) []) := Lay.nil_ok.callF (G := []) rfl (fun k => by
 refine (jsrm_fun p c k).trans ?_
 simp only [u8_back, okc_u8, ek10, ek13, ek34, ek35, ek36, ek39, ek40, ek41, ek42, ek45, ek47, ek58, ek63, ek91, ek92, ek93, ek95, ek96, ek125]
 repeat' (with_reducible apply bif_split <;> intro _)
 all_goals first | (simp_all [jsRemark, Bool.cond_eq_ite]; done) | (simp only [jsRemark, Bool.cond_eq_ite, Bool.and_eq_true, Bool.or_eq_true, beq_iff_eq, decide_eq_true_eq] at *; grind))
end Go.Mu
namespace Go.Proofs
open Go.Shelf
def Tryz.fRen : Ren := {
 f := fun x => match x with
  | 157 => 160
  | 199 => 164
  | 229 => 163
  | 261 => 165
  | 311 => 166
  | 312 => 167
  | n => n,
 t := fun x => match x with
  | 0 => 0
  | 3 => 3
  | 4 => 4
  | 5 => 5
  | 9 => 9
  | 21 => 21
  | 31 => 23
  | 40 => 134
  | 46 => 88
  | 49 => 160
  | 51 => 127
  | 119 => 139
  | 141 => 155
  | 152 => 151
  | 154 => 153
  | 193 => 156
  | 194 => 157
  | 196 => 159
  | 198 => 162
  | 201 => 165
  | 226 => 167
  | 227 => 168
  | n => n,
 g := fun x => match x with
  | 0 => 3
  | 6 => 4
  | n => n }
theorem Tryz.fRen_157 : Lays.n157 Tryz.prog Tryz.fRen := {
 mixed := by kernel_rfl
 f157 := Tryz.func160.trans (congrArg some (by kernel_rfl))
 f199 := Tryz.func164.trans (congrArg some (by kernel_rfl))
 f229 := Tryz.func163.trans (congrArg some (by kernel_rfl))
 f261 := Tryz.func165.trans (congrArg some (by kernel_rfl))
 f311 := Tryz.func166.trans (congrArg some (by kernel_rfl))
 f312 := Tryz.func167.trans (congrArg some (by kernel_rfl))
 t0 := Tryz.underlying0
 a0 := Tryz.isAgg0
 z0 := Tryz.sizeOf0
 v0 := Tryz.zeroValue0
 t3 := Tryz.underlying3
 a3 := Tryz.isAgg3
 z3 := Tryz.sizeOf3
 v3 := Tryz.zeroValue3
 t4 := Tryz.underlying4
 a4 := Tryz.isAgg4
 z4 := Tryz.sizeOf4
 v4 := Tryz.zeroValue4
 t5 := Tryz.underlying5
 a5 := Tryz.isAgg5
 z5 := Tryz.sizeOf5
 v5 := Tryz.zeroValue5
 t9 := Tryz.underlying9
 a9 := Tryz.isAgg9
 z9 := Tryz.sizeOf9
 v9 := Tryz.zeroValue9
 t21 := Tryz.underlying21
 a21 := Tryz.isAgg21
 z21 := Tryz.sizeOf21
 v21 := Tryz.zeroValue21
 t31 := Tryz.underlying23
 a31 := Tryz.isAgg23
 z31 := Tryz.sizeOf23
 v31 := Tryz.zeroValue23
 t40 := Tryz.underlying134
 a40 := Tryz.isAgg134
 z40 := Tryz.sizeOf134
 v40 := Tryz.zeroValue134
 t46 := Tryz.underlying88
 a46 := Tryz.isAgg88
 z46 := Tryz.sizeOf88
 v46 := Tryz.zeroValue88
 t49 := Tryz.underlying160
 a49 := Tryz.isAgg160
 z49 := Tryz.sizeOf160
 v49 := Tryz.zeroValue160
 t51 := Tryz.underlying127
 a51 := Tryz.isAgg127
 z51 := Tryz.sizeOf127
 v51 := Tryz.zeroValue127
 t119 := Tryz.underlying139
 a119 := Tryz.isAgg139
 z119 := Tryz.sizeOf139
 t141 := Tryz.underlying155
 a141 := Tryz.isAgg155
 z141 := Tryz.sizeOf155
 v141 := Tryz.zeroValue155
 t152 := Tryz.underlying151
 a152 := Tryz.isAgg151
 z152 := Tryz.sizeOf151
 v152 := Tryz.zeroValue151
 t154 := Tryz.underlying153
 a154 := Tryz.isAgg153
 z154 := Tryz.sizeOf153
 v154 := Tryz.zeroValue153
 t193 := Tryz.underlying156
 a193 := Tryz.isAgg156
 z193 := Tryz.sizeOf156
 v193 := Tryz.zeroValue156
 t194 := Tryz.underlying157
 a194 := Tryz.isAgg157
 z194 := Tryz.sizeOf157
 v194 := Tryz.zeroValue157
 t196 := Tryz.underlying159
 a196 := Tryz.isAgg159
 z196 := Tryz.sizeOf159
 v196 := Tryz.zeroValue159
 t198 := Tryz.underlying162
 a198 := Tryz.isAgg162
 z198 := Tryz.sizeOf162
 v198 := Tryz.zeroValue162
 t201 := Tryz.underlying165
 a201 := Tryz.isAgg165
 z201 := Tryz.sizeOf165
 v201 := Tryz.zeroValue165
 t226 := Tryz.underlying167
 a226 := Tryz.isAgg167
 z226 := Tryz.sizeOf167
 v226 := Tryz.zeroValue167
 t227 := Tryz.underlying168
 a227 := Tryz.isAgg168
 z227 := Tryz.sizeOf168
 v227 := Tryz.zeroValue168
 g0 := by kernel_rfl
 g6 := by kernel_rfl
}
end Go.Proofs
namespace Go.Mu
open Go Go.Proofs Go.RowKit
section
variable {P : Program} {w w' : World} {E : Env} {H : Heap}
theorem Sim.freshVQ (sim : Sim w E H) (hb : Below w.heap.size w w') {Q : Nat → Prop} (hQ : ∀ b, Q b → w.heap.size ≤ b ∧ b < w'.heap.size) :
 Evo No w E H w' { E with imm := fun x => E.imm x ∨ Q x } H ∧ Sim w' { E with imm := fun x => E.imm x ∨ Q x } H := by
 have old : ∀ {b}, b < w.heap.size → w'.heap[b]? = w.heap[b]? := fun h => hb.block _ h
 have hsz := hb.size
 have ev : Evo No w E H w' { E with imm := fun x => E.imm x ∨ Q x } H := by
  refine ⟨hsz, fun b hb _ _ => old hb, fun b hb => ⟨.inl hb, old (sim.immLt b hb)⟩, fun b hb => ?_, fun k hk => ⟨hk, rfl⟩, fun k sz u hk => ⟨u, hk, Nat.le_refl _, fun _ => ⟨rfl, fun _ => rfl⟩⟩,
   fun k hk => .inr ⟨hk, rfl⟩, Nat.le_refl _, hb.tape, hb.os, hb.output⟩
  rcases hb with hb | hb
  · exact .inl hb
  · exact .inr (hQ _ hb).1
 have hs := ev.sees
 refine ⟨ev, fun b hb => ?_, fun k cs hc => (sim.var k cs hc).mono hs (old (sim.apart k (.inl (var_of_get hc))).2), fun k sz rows u hc => ?_, fun k hk => ⟨?_, ?_⟩, sim.inj, fun j t n hj hl => (sim.note j t n hj hl).same (old (sim.apart _ hl).2), sim.glob.mono hs.imm⟩
 · rcases hb with hb | hb
   · have := sim.immLt b hb; omega
   · exact (hQ _ hb).2
 · obtain ⟨h1, h2, h3, h4⟩ := sim.arr k sz rows u hc
   exact ⟨h1, h2, h3, fun hcap => (h4 hcap).mono hs (old (sim.apart k (.inr ⟨⟨sz, u, arr_of_get hc⟩, hcap⟩)).2)⟩
 · rintro (hb | hb)
   · exact (sim.apart k hk).1 hb
   · have := (sim.apart k hk).2; have := (hQ _ hb).1; simp only at this; omega
 · have := (sim.apart k hk).2; simp only; omega
theorem CallOK.freshVQ {f : FuncId} {xs : List AVal} {v : AVal} (h : ∀ w E (cs : List Value), Sim w E H → cs.length = xs.length → (∀ j, j < xs.length → Rep w E H (xs.getD j .undef) (cs.getD j undef)) →
 ∃ (Q : World → Nat → Prop) (c : Value), Calls P f cs.toArray w (fun e w' => e = .returned c ∧ Below w.heap.size w w' ∧ (∀ b, Q w' b → w.heap.size ≤ b ∧ b < w'.heap.size) ∧ RepP w' (fun x => E.imm x ∨ Q w' x) v c)) : CallOK P f xs H (.ret v H) := by
 intro w E cs sim hl hr
 obtain ⟨Q, c, h1⟩ := h w E cs sim hl hr
 refine Calls.mono h1 (fun e w' hp => ?_)
 obtain ⟨rfl, hb, hq, h2⟩ := hp
 obtain ⟨ev, sim'⟩ := sim.freshVQ hb hq
 exact ⟨_, ev, sim', .pure _ _ h2⟩
def baQ (s : List UInt8) : ByteArray := ⟨⟨s⟩⟩
theorem alloc_sizeQ (w : World) (ds : Array Value) (t : TypeId) : (w.alloc (.cells ds t)).heap.size = w.heap.size + 1 := (pushed_alloc w ds t).size
theorem alloc_newQ (w : World) (ds : Array Value) (t : TypeId) : (w.alloc (.cells ds t)).heap[w.heap.size]? = some (.cells ds t) := (pushed_alloc w ds t).new
theorem ba_sizeQ (s : List UInt8) : (baQ s).size = s.length := rfl
theorem ba_eqQ {b : ByteArray} {s : List UInt8} (h : b.data.toList = s) : b = baQ s := by
 subst h
 cases b with | mk d => cases d with | mk l => rfl
end
theorem asc_cell {w : World} {E : Env} {H : Heap} (sim : Sim w E H) (c : Nat) (hc : c < 256) : w.cell? ⟨3, c, none⟩ = some (.int .u8 (if Lib.isSp (UInt8.ofNat c) then 1 else 0)) := by
 have h := sim.glob.2 3 (Lib.asciiSpaceTab.map (AVal.int .u8)) (by unfold gvals; rfl)
 have hl : c < (Lib.asciiSpaceTab.map (AVal.int .u8)).length := by rw [List.length_map, Lib.asciiSpaceTab_length]; exact hc
 generalize hx : Value.pointer (some ⟨3, 0, none⟩) = x at h
 generalize hy : AVal.rptr (Lib.asciiSpaceTab.map (AVal.int .u8)) = y at h
 cases h with
 | rptr cells blk off cs h1 h2 h3 =>
  cases hx
  cases hy
  have a := (h2 c hl).1
  have b := h3 c hl
  rw [Nat.zero_add] at a
  rw [a]
  have e : (Lib.asciiSpaceTab.map (AVal.int .u8)).getD c .undef = .int .u8 (if Lib.isSp (UInt8.ofNat c) then 1 else 0) := by
   rw [List.getD_eq_getElem?_getD, List.getElem?_map]
   have := Lib.asciiSpaceTab_at c hc
   rw [List.getD_eq_getElem?_getD, List.getElem?_eq_getElem (by rw [Lib.asciiSpaceTab_length]; exact hc)] at this
   rw [List.getElem?_eq_getElem (by rw [Lib.asciiSpaceTab_length]; exact hc)]
   exact congrArg (AVal.int .u8) this
  rw [e] at b
  generalize cs c = yc at b ⊢
  generalize hz : AVal.int .u8 (if Lib.isSp (UInt8.ofNat c) then 1 else 0) = z at b
  cases b <;> first | (cases hz; rfl) | cases hz
 | _ => cases hy
theorem fields_ok (s : List UInt8) (h1 : s.length < 4294967281) (h2 : s.all (fun b => decide (b.toNat < 128)) = true) : CallOK Tryz.prog 160 [.str s] [] (.ret (encL true encS [] (Lib.fields s)) []) := by
 refine CallOK.freshVQ (fun w E cs sim hl hr => ?_)
 obtain ⟨x, rfl⟩ : ∃ x, cs = [x] := by
  match cs, hl with
  | [x], _ => exact ⟨x, rfl⟩
 obtain ⟨b, e1, e2⟩ := rep_str (hr 0 (by simp))
 replace e1 : x = .string b := e1
 subst e1
 rw [ba_eqQ e2]
 refine ⟨fun _ b => b = w.heap.size, .slice (some ⟨w.heap.size, 0, none⟩) (Lib.fields s).length (Lib.fields s).length, ?_⟩
 refine (Any.strings_Fields_core Tryz.fRen_157 (by kernel_rfl) (baQ s) w (by rw [ba_sizeQ]; exact h1) (fun j b hb => ?_) (fun c hc => asc_cell sim c hc)).mono fun e w' ⟨he, hw⟩ => ⟨he, ?_, ?_, ?_⟩
 · have := List.all_eq_true.1 h2 b (List.mem_of_getElem? hb)
   exact of_decide_eq_true this
 · subst hw; exact (Below.refl _ _).alloc (Nat.le_refl _) _
 · subst hw; intro b hb; subst hb; rw [alloc_sizeQ]; omega
 · subst hw
   unfold encL
   refine .list true _ _ w.heap.size 0 _ 1 (fun i j => .string (baQ ((Lib.fields s).getD i []))) (Nat.le_refl _) (fun _ => rfl) (.inr rfl) (fun i hi => rfl) (fun i j hi hj => ?_) (fun i j hi hj => ?_)
   · have hj0 : j = 0 := by omega
     subst hj0
     refine ⟨?_, rfl⟩
     have e6 : 0 + i * 1 + 0 = i := by omega
     rw [e6]
     unfold World.cell?
     rw [alloc_newQ]
     have e7 : (baQ s).data.toList = s := rfl
     simp only [e7, List.getElem?_toArray, List.getElem?_map, List.getElem?_eq_getElem hi, Option.map_some, List.getD_eq_getElem?_getD, Option.getD_some]
     rfl
   · have hj0 : j = 0 := by omega
     subst hj0
     exact .str (baQ ((Lib.fields s).getD i []))
def fieldsTold : FSp := mkFS [.s] (fun xs => decide ((aS xs 0).length < 4294967281) && (aS xs 0).all (fun b => decide (b.toNat < 128))) (fun xs k => k (.ret (encL true encS [] (Lib.fields (aS xs 0))) []))
theorem fieldsTold_ok : ∀ xs H k out, fieldsTold xs H k = some out → ∃ o, CallOK Tryz.prog 160 xs H o ∧ k o = some out := mkFS_ok fun ys xs e h => by
 obtain ⟨s, rfl⟩ : ∃ s, xs = [.str s] := ⟨_, e⟩
 simp only [Bool.and_eq_true] at h
 exact ⟨_, fun k => rfl, fields_ok s (of_decide_eq_true h.1) h.2⟩
end Go.Mu
namespace Go.Mu
open Go Go.Proofs
def hpStr (H : Heap) : Bs := match H with
 | [.var [.str w]] => w
 | _ => []
noncomputable def ifvSp : LSp := mkL (fun vs _ H => (hpStr H, decL decS (vs.getD 0 .undef))) (fun a => a.2.length ≤ 1099511627776) (fun a => [encL true encS [] a.2, .func 161 [.ptr (.hp 0) 0], .int .i64 a.2.length, .int .i64 0]) (fun _ => []) (fun a => [.var [.str a.1]])
 (fun a k => cond (a.2.any (fun x => x == a.1)) (k .ret [.int .i64 (a.2.findIdx (fun x => x == a.1) : Nat)] [] [.var [.str a.1]]) (k (.exit 0) [.undef] [] [.var [.str a.1]]))
noncomputable def ifvFH : FH := .of [(2, loopSpec 19 [0,1,7,8] [] [4] [] ifvSp)]
theorem ifv_step (l : List Bs) (w : Bs) (n i : Int) (D : List (FuncId × List AVal)) (k : Kont) : lturn Tryz.prog Lay.nil ifvFH 162 2 [0,1,7,8] [] [4] [] (stL 19 [0,1,7,8] [encL true encS [] l, .func 161 [.ptr (.hp 0) 0], .int .i64 n, .int .i64 i] [] [] [.var [.str w]] D) k = (
 bif decide (i < n) then bif decide (0 ≤ i) && decide (i < (↑l.length : Int)) then bif l.getD i.toNat [] == w then k AExit.ret (stL 19 [4] [AVal.int .i64 i] [] [] [Obj.var [AVal.str w]] D) else k AExit.normal (stL 19 [0, 1, 7, 8] [AVal.list true l.length fun (i : Nat) => [AVal.str (l.getD i [])], AVal.func 161 [AVal.ptr (Oid.hp 0) 0], AVal.int .i64 n, AVal.int .i64 (IntKind.i64.wrap (i + 1))] [] [] [Obj.var [AVal.str w]] D) else none else k (AExit.exit 0) (stL 19 [4] [AVal.undef] [] [] [Obj.var [AVal.str w]] D)) := by kernel_rfl
noncomputable def layIfv : Lay := Lay.nil.addL 162 ifvFH
theorem cfv_fun (l : List Bs) (w : Bs) (k : Out → Ans) : iFun Tryz.prog (layIfv.hd Tryz.prog) layIfv.fhs 0 159 [encL true encS [] l, .func 161 [.ptr (.hp 0) 0]] [.var [.str w]] k = (
 let m0 : Nat := (decL decS (AVal.list true l.length fun (i : Nat) => [AVal.str (l.getD i [])])).length;
 let z0 := [Obj.var [AVal.str (hpStr [Obj.var [AVal.str w]])]];
  bif tst (m0 ≤ 1099511627776 ∧ SubTL [AVal.list true l.length fun (i : Nat) => [AVal.str (l.getD i [])], AVal.func 161 [AVal.ptr (Oid.hp 0) 0], AVal.int .i64 (↑l.length : Int), AVal.int .i64 0] [AVal.list true m0 fun (i : Nat) => [AVal.str ((decL decS (AVal.list true l.length fun (i : Nat) => [AVal.str (l.getD i [])])).getD i [])], AVal.func 161 [AVal.ptr (Oid.hp 0) 0], AVal.int .i64 (↑m0 : Int), AVal.int .i64 0] ∧ ([] : List (List AVal)) = [] ∧ [Obj.var [AVal.str w]] = z0) then bif (decL decS (AVal.list true l.length fun (i : Nat) => [AVal.str (l.getD i [])])).any fun (x : List UInt8) => x == hpStr [Obj.var [AVal.str w]] then k (Out.ret (AVal.bool true) z0) else k (Out.ret (AVal.bool false) z0) else none) := by kernel_rfl
noncomputable def cfvTold : FSp := mkF (fun xs H => (hpStr H, decL decS (xs.getD 0 .undef))) (fun a => a.2.length ≤ 1099511627776) (fun a => [encL true encS [] a.2, .func 161 [.ptr (.hp 0) 0]]) (fun a => [.var [.str a.1]]) (fun a k => k (.ret (.bool (a.2.any (fun x => x == a.1))) [.var [.str a.1]]))
noncomputable def layEn0 : Lay := (Lay.nil.addF 160 fieldsTold).addF 159 cfvTold
noncomputable def layEn : Lay := layEn0.addL 156 { heap := [3] }
theorem en_fun (p : Int) (w : Bs) (k : Out → Ans) : iFun Tryz.prog (layEn.hd Tryz.prog) layEn.fhs 0 156 [.int .i64 p, .str w] [] k = (
 let c0 : Bool := !w == [];
 let z2 := [105, 110, 115, 116, 97, 110, 99, 101, 111, 102];
 let z0 := [[114, 101, 116, 117, 114, 110], [116, 121, 112, 101, 111, 102], [99, 97, 115, 101], [105, 110], [111, 102], [100, 101, 108, 101, 116, 101], [118, 111, 105, 100], [116, 104, 114, 111, 119], [110, 101, 119], [101, 108, 115, 101], [100, 111], z2];
 let z1 := [Obj.var [AVal.str (hpStr [Obj.var [AVal.str w]])]];
  bif c0 then bif tst (12 ≤ 1099511627776 ∧ SubL [AVal.list true 12 fun (i : Nat) => [AVal.str (z0.getD i [])], AVal.func 161 [AVal.ptr (Oid.hp 0) 0]] [AVal.list true 12 fun (i : Nat) => [AVal.str ((decL decS (AVal.list true 12 fun (i : Nat) => [AVal.str (z0.getD i [])])).getD i [])], AVal.func 161 [AVal.ptr (Oid.hp 0) 0]] ∧ [Obj.var [AVal.str w]] = z1) then bif bif c0 then decS [AVal.str [114, 101, 116, 117, 114, 110]] == hpStr [Obj.var [AVal.str w]] || (decS [AVal.str [116, 121, 112, 101, 111, 102]] == hpStr [Obj.var [AVal.str w]] || (decS [AVal.str [99, 97, 115, 101]] == hpStr [Obj.var [AVal.str w]] || (decS [AVal.str [105, 110]] == hpStr [Obj.var [AVal.str w]] || (decS [AVal.str [111, 102]] == hpStr [Obj.var [AVal.str w]] || (decS [AVal.str [100, 101, 108, 101, 116, 101]] == hpStr [Obj.var [AVal.str w]] || (decS [AVal.str [118, 111, 105, 100]] == hpStr [Obj.var [AVal.str w]] || (decS [AVal.str [116, 104, 114, 111, 119]] == hpStr [Obj.var [AVal.str w]] || (decS [AVal.str [110, 101, 119]] == hpStr [Obj.var [AVal.str w]] || (decS [AVal.str [101, 108, 115, 101]] == hpStr [Obj.var [AVal.str w]] || (decS [AVal.str [100, 111]] == hpStr [Obj.var [AVal.str w]] || (decS [AVal.str z2] == hpStr [Obj.var [AVal.str w]] || false))))))))))) else false then k (Out.ret (AVal.int .i64 0) z1) else k (Out.ret (AVal.int .i64 p) z1) else none else bif c0 then none else k (Out.ret (AVal.int .i64 p) [Obj.var [AVal.str w]])) := by kernel_rfl
end Go.Mu
namespace Go.Mu
open Go Go.Proofs
noncomputable abbrev ifvTurn := lturn Tryz.prog Lay.nil ifvFH 162 2 [0,1,7,8] [] [4] []
theorem ifvSp_ok : SpOK ifvTurn 19 [0,1,7,8] [] [4] [] ifvSp := mkL_ok fun a h => by
 obtain ⟨w, l⟩ := a
 replace h : l.length ≤ 1099511627776 := h
 have hrun : ∀ D k, rounds ifvTurn (l.length + 1) (stL 19 [0,1,7,8] [encL true encS [] l, .func 161 [.ptr (.hp 0) 0], .int .i64 l.length, .int .i64 0] [] [] [.var [.str w]] D) k = cond (l.any (fun x => x == w)) (k .ret (stL 19 [4] [.int .i64 (l.findIdx (fun x => x == w) : Nat)] [] [] [.var [.str w]] D)) (k (.exit 0) (stL 19 [4] [.undef] [] [] [.var [.str w]] D)) := by
  intro D k
  have := search_find (turn := ifvTurn) (S := fun i => stL 19 [0,1,7,8] [encL true encS [] l, .func 161 [.ptr (.hp 0) 0], .int .i64 l.length, .int .i64 (i : Nat)] [] [] [.var [.str w]] D) (hit := fun i => (fun x => x == w) (l.getD i [])) (n := l.length) (e0 := .exit 0) (e1 := .ret)
   (R0 := stL 19 [4] [.undef] [] [] [.var [.str w]] D) (R1 := fun i => stL 19 [4] [.int .i64 (i : Nat)] [] [] [.var [.str w]] D) (fun i k hi => by
    refine (ifv_step l w l.length i D k).trans ?_
    rw [dT (show (i : Int) < l.length by omega), dT (show (0 : Int) ≤ i by omega), wrap_add1 (by omega)]; rfl) (fun k => by
    refine (ifv_step l w l.length l.length D k).trans ?_
    rw [dF (by omega)]; rfl) (by simp) (by simp) k
  rw [find_getD (fun x => x == w)] at this
  refine Eq.trans this ?_
  cases l.any (fun x => x == w) <;> rfl
 show ∃ e vs bs H', (∀ k : AExit → List AVal → List (List AVal) → Heap → Ans, cond (l.any (fun x => x == w)) _ _ = k e vs bs H') ∧ _
 cases ha : l.any (fun x => x == w) with
 | true => exact ⟨_, _, _, _, fun k => rfl, _, fun D k => by rw [hrun, ha]; rfl⟩
 | false => exact ⟨_, _, _, _, fun k => rfl, _, fun D k => by rw [hrun, ha]; rfl⟩
theorem layIfv_ok : layIfv.OK Tryz.prog := Lay.nil_ok.loop1 (id := 2) (by kernel_rfl) (by kernel_rfl) (by kernel_rfl) ifvSp_ok
theorem cfv_ok (l : List Bs) (w : Bs) (hl : l.length ≤ 1099511627776) : CallOK Tryz.prog 159 [encL true encS [] l, .func 161 [.ptr (.hp 0) 0]] [.var [.str w]] (.ret (.bool (l.any (fun x => x == w))) [.var [.str w]]) := by
 have e : decL decS (AVal.list true l.length fun (i : Nat) => [AVal.str (l.getD i [])]) = l := decL_encL (g := decS) (f := encS) (d := []) (full := true) (fun a => rfl) l
 refine layIfv_ok.call (fun k => (cfv_fun l w k).trans ?_)
 simp only [e]
 refine (congrArg (fun c => cond c _ none) (tst_true ⟨hl, .refl _, trivial, rfl⟩)).trans ((cond_true _ _).trans ?_)
 show cond (l.any (fun x => x == w)) _ _ = _
 cases l.any (fun x => x == w) <;> rfl
theorem cfvTold_ok : ∀ xs H k out, cfvTold xs H k = some out → ∃ o, CallOK Tryz.prog 159 xs H o ∧ k o = some out := mkF_ok fun a h => ⟨_, fun k => rfl, cfv_ok a.2 a.1 h⟩
theorem layEn_ok : layEn.OK Tryz.prog := ((Lay.nil_ok.addF fieldsTold_ok).addF cfvTold_ok).addN (by kernel_rfl)
theorem any_words (w : Bs) : jsWords.any (fun x => x == w) = jsWords.contains w := by
 rw [List.contains_eq_any_beq]
 congr 1
 funext x
 rw [Bool.eq_iff_iff, beq_iff_eq, beq_iff_eq]
 exact eq_comm
theorem en_ok (p : Int) (w : Bs) : CallOK Tryz.prog 156 [.int .i64 p, .str w] [] (.ret (.int .i64 (jsEnded p w)) []) := by
 refine CallOK.shrink (H := []) (H' := []) (G := [.var [.str w]]) ?_ (Nat.le_refl _) rfl (fun x hx => by cases hx)
 refine layEn_ok.call (fun k => (en_fun p w k).trans ?_)
 have e : decL decS (AVal.list true 12 fun (i : Nat) => [AVal.str (jsWords.getD i [])]) = jsWords := by kernel_rfl
 show (bif !w == [] then _ else _) = k (.ret (.int .i64 (bif (!w == []) && jsWords.contains w then 0 else p)) [.var [.str w]])
 rw [← any_words]
 cases hw : !w == [] with
 | false => rfl
 | true =>
  refine (cond_true _ _).trans ((congrArg (fun c => cond c _ none) (tst_true ⟨by decide, ?_, rfl⟩)).trans ((cond_true _ _).trans ?_))
  · show (bif (jsWords.any fun x => x == w) then k (.ret (.int .i64 0) [.var [.str w]]) else k (.ret (.int .i64 p) [.var [.str w]])) = k (.ret (.int .i64 (bif true && (jsWords.any fun x => x == w) then 0 else p)) [.var [.str w]])
    cases jsWords.any fun x => x == w <;> rfl
  · refine .cons (Sub.list (fun h => h) (fun i hi => ?_)) (.refl _)
    show SubL [AVal.str (jsWords.getD i [])] [AVal.str ((decL decS (AVal.list true 12 fun (i : Nat) => [AVal.str (jsWords.getD i [])])).getD i [])]
    rw [e]
    exact .refl _
theorem enTold_ok : ∀ xs H k out, enTold jsEnded xs H k = some out → ∃ o, CallOK Tryz.prog 156 xs H o ∧ k o = some out := mkFS_ok fun ys xs e hk => by
 obtain ⟨p, w, rfl⟩ : ∃ p w, xs = [.int .i64 p, .str w] := ⟨_, _, e⟩
 exact ⟨_, fun k => rfl, en_ok p w⟩
theorem layJs0_ok : (layJs0 jswyR blankR jsEnded).OK Tryz.prog := ((Lay.nil_ok.addF blankT_ok).addF (c8Told_ok jswy_ok)).addF enTold_ok
def jscdP (p : Int) (w : Bs) (n : Int) : Int × Bs := jsCode p w (u8 n)
theorem jscd_ok (p : Int) (w : Bs) (c : UInt8) (hw : w.length ≤ 1048576) : CallOK Tryz.prog 143 [.int .i64 p, .str w, .int .u8 c.toNat] [] (.ret (.tuple [.int .i64 (jscdP p w c.toNat).1, .str (jscdP p w c.toNat).2]) []) := layJs0_ok.callF (G := []) rfl (fun k => by
 refine (jscd_fun jswyR blankR jsEnded p w c k).trans ?_
 unfold jscdP
 have g : decide (w.length + 1 ≤ 4611686018427387904) = true := dT (by omega)
 simp only [u8_back, okc_u8, ek10, ek13, ek34, ek35, ek36, ek39, ek40, ek41, ek42, ek45, ek47, ek58, ek63, ek91, ek92, ek93, ek95, ek96, ek125, jswyR_u8, blankR_u8, byteOf0, dl16, g, dT hw, cond_true]
 generalize hE : jsEnded p w = q
 repeat' (with_reducible apply bif_split <;> intro _)
 all_goals first | (simp_all [jsCode, Bool.cond_eq_ite]; done) | (simp only [jsCode, Bool.cond_eq_ite, Bool.and_eq_true, Bool.or_eq_true, beq_iff_eq, decide_eq_true_eq] at *; grind))
def jsmaP (p n : Int) : Int := jsMatched p (u8 n)
def jsquP (p n : Int) : Int := jsQuoted p (u8 n)
def jsrmP (p n : Int) : Int := jsRemark p (u8 n)
def jsslP (p n : Int) : Int × Bs := jsSlashed p (u8 n)
theorem layJs1_ok : (layJs1 jscdP jsmaP).OK Tryz.prog := (Lay.nil_ok.addF (pwTold_ok jscd_ok)).addF (pcTold_ok jsma_ok)
theorem jssl_ok (p : Int) (c : UInt8) : CallOK Tryz.prog 148 [.int .i64 p, .int .u8 c.toNat] [] (.ret (.tuple [.int .i64 (jsslP p c.toNat).1, .str (jsslP p c.toNat).2]) []) := layJs1_ok.callF (G := []) rfl (fun k => by
 refine (jssl_fun jscdP jsmaP p c k).trans ?_
 have e1 : jscdP 0 [] (c.toNat : Int) = jsCode 0 [] c := by unfold jscdP; rw [u8_back]
 have e2 : jsmaP 9 (c.toNat : Int) = jsMatched 9 c := by unfold jsmaP; rw [u8_back]
 unfold jsslP
 simp only [u8_back, okc_u8, ek10, ek13, ek34, ek35, ek36, ek39, ek40, ek41, ek42, ek45, ek47, ek58, ek63, ek91, ek92, ek93, ek95, ek96, ek125, e1, e2, Bool.and_true, cond_true]
 show _ = k (.ret (.tuple [.int .i64 (bif c == 47 then (6, []) else bif c == 42 then (7, []) else bif p == 13 then (jsMatched 9 c, []) else jsCode 0 [] c).1, .str (bif c == 47 then (6, []) else bif c == 42 then (7, []) else bif p == 13 then (jsMatched 9 c, []) else jsCode 0 [] c).2]) [])
 generalize jsCode 0 [] c = r
 generalize jsMatched 9 c = m
 cases c == 47 <;> cases c == 42 <;> cases p == 13 <;> rfl)
theorem layJs2_ok : (layJs2 jscdP jsmaP jsquP jsrmP jsslP).OK Tryz.prog := ((layJs1_ok.addF (pcTold_ok jsqu_ok)).addF (pcTold_ok jsrm_ok)).addF (spTold_ok jssl_ok)
def jsstP (p : Int) (w : Bs) (n : Int) : Int × Bs := jsStep p w (u8 n)
theorem beq_f {p v : Int} (h : ¬ p = v) : (p == v) = false := by simpa using h
theorem jsst_ok (p : Int) (w : Bs) (c : UInt8) (hw : w.length ≤ 1048576) : CallOK Tryz.prog 136 [.int .i64 p, .str w, .int .u8 c.toNat] [] (.ret (.tuple [.int .i64 (jsstP p w c.toNat).1, .str (jsstP p w c.toNat).2]) []) := layJs2_ok.callF (G := []) rfl (fun k => by
 refine (jsst_fun jscdP jsmaP jsquP jsrmP jsslP p w c k).trans ?_
 simp only [okc_u8, dT hw, Bool.and_true, cond_true]
 by_cases h0 : p = 0
 · subst h0; rfl
 by_cases h1 : p = 1
 · subst h1; rfl
 by_cases h2 : p = 2
 · subst h2; rfl
 by_cases h3 : p = 3
 · subst h3; rfl
 by_cases h4 : p = 4
 · subst h4; rfl
 by_cases h5 : p = 5
 · subst h5; rfl
 by_cases h6 : p = 6
 · subst h6; simp only [jsstP, u8_back, ek10, ek13]
   show (bif (bif c == 10 then true else c == 13) then k (.ret (.tuple [.int .i64 0, .str []]) []) else k (.ret (.tuple [.int .i64 6, .str []]) [])) = k (.ret (.tuple [.int .i64 (bif c == 10 || c == 13 then (0 : Int) else 6), .str []]) [])
   cases c == 10 <;> cases c == 13 <;> rfl
 by_cases h7 : p = 7
 · subst h7; rfl
 by_cases h8 : p = 8
 · subst h8; rfl
 by_cases h9 : p = 9
 · subst h9; rfl
 by_cases h10 : p = 10
 · subst h10; rfl
 by_cases h11 : p = 11
 · subst h11; rfl
 by_cases h12 : p = 12
 · subst h12; rfl
 by_cases h13 : p = 13
 · subst h13; rfl
 by_cases h14 : p = 14
 · subst h14; rfl
 unfold jsstP jsStep
 simp only [beq_f h0, beq_f h1, beq_f h2, beq_f h3, beq_f h4, beq_f h5, beq_f h6, beq_f h7, beq_f h8, beq_f h9, beq_f h10, beq_f h11, beq_f h12, beq_f h13, beq_f h14, cond_false, Bool.or_self]
 )
end Go.Mu
namespace Go.Mu
open Go Go.Proofs
abbrev FdF := Int → Bs → Bs → Int × Bs
def okpw (p : Int) (w : Bs) : Bool := decide (0 ≤ p) && decide (p ≤ 15) && decide (w.length ≤ 16)
structure FdA where
 p : Int
 w : Bs
 f : Bool
 l : Bs
 i : Nat
 H : Heap
noncomputable def fdSp (R : FdF) : LSp := mkL (fun vs _ H => FdA.mk (aI vs 0) (aS vs 1) (fullOf (vs.getD 2 .undef)) (decL decB (vs.getD 2 .undef)) (aI vs 4).toNat H) (fun a => okpw a.p a.w = true ∧ a.i = 0 ∧ a.l.length ≤ 1099511627776) (fun a => [.int .i64 a.p, .str a.w, encL a.f byteRow 0 a.l, .int .i64 a.l.length, .int .i64 (a.i : Nat)]) (fun _ => []) (fun a => a.H)
 (fun a k => k (.exit 0) [.int .i64 (R a.p a.w a.l).1, .str (R a.p a.w a.l).2] [] a.H)
noncomputable def fdFH (R : FdF) : FH := .of [(2, loopSpec 27 [0,1,11,12,13] [] [0,1] [] (fdSp R))]
def fdTold (R : FdF) : FSp := mkFS [.i .i64, .s, .s] (fun xs => okpw (aI xs 0) (aS xs 1) && decide ((aS xs 2).length ≤ 1099511627776)) (fun xs k => k (.ret (.tuple [.int .i64 (R (aI xs 0) (aS xs 1) (aS xs 2)).1, .str (R (aI xs 0) (aS xs 1) (aS xs 2)).2]) []))
def layFdu0 (S : Int → Bs → Int → Int × Bs) : Lay := Lay.nil.addF 135 (pwTold S)
theorem fdu_step (S : Int → Bs → Int → Int × Bs) (R : FdF) (p : Int) (w : Bs) (f : Bool) (l : Bs) (n i : Int) (H : Heap) (D : List (FuncId × List AVal)) (k : Kont) : lturn Tryz.prog (layFdu0 S) (fdFH R) 118 2 [0,1,11,12,13] [] [0,1] [] (stL 27 [0,1,11,12,13] [.int .i64 p, .str w, encL f byteRow 0 l, .int .i64 n, .int .i64 i] [] [] H D) k = (
 let n0 : Int := (↑(List.getD l i.toNat 0).toNat : Int);
  bif decide (i < n) then bif decide (0 ≤ i) && decide (i < (↑(List.length l) : Int)) then bif okc n0 && decide (List.length w ≤ 1048576) then k AExit.normal (stL 27 [0, 1, 11, 12, 13] [AVal.int .i64 (S p w n0).fst, AVal.str (S p w n0).snd, AVal.list f (List.length l) fun (i : Nat) => [AVal.int .u8 (↑(List.getD l i 0).toNat : Int)], AVal.int .i64 n, AVal.int .i64 (IntKind.i64.wrap (i + 1))] [] [] H D) else none else none else k (AExit.exit 0) (stL 27 [0, 1] [AVal.int .i64 p, AVal.str w] [] [] H D)) := by kernel_rfl
noncomputable def layFdu (S : Int → Bs → Int → Int × Bs) (R : FdF) : Lay := (layFdu0 S).addL 118 (fdFH R)
theorem fdu_fun (S : Int → Bs → Int → Int × Bs) (R : FdF) (p : Int) (w s : Bs) (k : Out → Ans) : iFun Tryz.prog ((layFdu S R).hd Tryz.prog) (layFdu S R).fhs 0 118 [.int .i64 p, .str w, .str s] [] k = (
 let l0 : List UInt8 := decL (fun (r : List AVal) => byteOf r) (AVal.list false (List.length s) fun (i : Nat) => [AVal.int .u8 (↑(List.getD s i 0).toNat : Int)]);
 let m1 : Nat := l0.length;
  bif tst ((okpw p w = true ∧ Int.toNat 0 = 0 ∧ m1 ≤ 1099511627776) ∧ SubTL [AVal.int .i64 p, AVal.str w, AVal.list false (List.length s) fun (i : Nat) => [AVal.int .u8 (↑(List.getD s i 0).toNat : Int)], AVal.int .i64 (↑(List.length s) : Int), AVal.int .i64 0] [AVal.int .i64 p, AVal.str w, AVal.list false m1 fun (i : Nat) => [AVal.int .u8 (↑((decL (fun (r : List AVal) => byteOf r) (AVal.list false (List.length s) fun (i : Nat) => [AVal.int .u8 (↑(List.getD s i 0).toNat : Int)])).getD i 0).toNat : Int)], AVal.int .i64 (↑m1 : Int), AVal.int .i64 (↑(Int.toNat 0) : Int)] ∧ ([] : List (List AVal)) = [] ∧ ([] : Heap) = []) then k (Out.ret (AVal.tuple [AVal.int .i64 (R p w l0).fst, AVal.str (R p w l0).snd]) []) else none) := by kernel_rfl
def layFdj0 (S : Int → Bs → Int → Int × Bs) : Lay := Lay.nil.addF 136 (pwTold S)
theorem fdj_step (S : Int → Bs → Int → Int × Bs) (R : FdF) (p : Int) (w : Bs) (f : Bool) (l : Bs) (n i : Int) (H : Heap) (D : List (FuncId × List AVal)) (k : Kont) : lturn Tryz.prog (layFdj0 S) (fdFH R) 119 2 [0,1,11,12,13] [] [0,1] [] (stL 27 [0,1,11,12,13] [.int .i64 p, .str w, encL f byteRow 0 l, .int .i64 n, .int .i64 i] [] [] H D) k = (
 let n0 : Int := (↑(List.getD l i.toNat 0).toNat : Int);
  bif decide (i < n) then bif decide (0 ≤ i) && decide (i < (↑(List.length l) : Int)) then bif okc n0 && decide (List.length w ≤ 1048576) then k AExit.normal (stL 27 [0, 1, 11, 12, 13] [AVal.int .i64 (S p w n0).fst, AVal.str (S p w n0).snd, AVal.list f (List.length l) fun (i : Nat) => [AVal.int .u8 (↑(List.getD l i 0).toNat : Int)], AVal.int .i64 n, AVal.int .i64 (IntKind.i64.wrap (i + 1))] [] [] H D) else none else none else k (AExit.exit 0) (stL 27 [0, 1] [AVal.int .i64 p, AVal.str w] [] [] H D)) := by kernel_rfl
noncomputable def layFdj (S : Int → Bs → Int → Int × Bs) (R : FdF) : Lay := (layFdj0 S).addL 119 (fdFH R)
theorem fdj_fun (S : Int → Bs → Int → Int × Bs) (R : FdF) (p : Int) (w s : Bs) (k : Out → Ans) : iFun Tryz.prog ((layFdj S R).hd Tryz.prog) (layFdj S R).fhs 0 119 [.int .i64 p, .str w, .str s] [] k = (
 let l0 : List UInt8 := decL (fun (r : List AVal) => byteOf r) (AVal.list false (List.length s) fun (i : Nat) => [AVal.int .u8 (↑(List.getD s i 0).toNat : Int)]);
 let m1 : Nat := l0.length;
  bif tst ((okpw p w = true ∧ Int.toNat 0 = 0 ∧ m1 ≤ 1099511627776) ∧ SubTL [AVal.int .i64 p, AVal.str w, AVal.list false (List.length s) fun (i : Nat) => [AVal.int .u8 (↑(List.getD s i 0).toNat : Int)], AVal.int .i64 (↑(List.length s) : Int), AVal.int .i64 0] [AVal.int .i64 p, AVal.str w, AVal.list false m1 fun (i : Nat) => [AVal.int .u8 (↑((decL (fun (r : List AVal) => byteOf r) (AVal.list false (List.length s) fun (i : Nat) => [AVal.int .u8 (↑(List.getD s i 0).toNat : Int)])).getD i 0).toNat : Int)], AVal.int .i64 (↑m1 : Int), AVal.int .i64 (↑(Int.toNat 0) : Int)] ∧ ([] : List (List AVal)) = [] ∧ ([] : Heap) = []) then k (Out.ret (AVal.tuple [AVal.int .i64 (R p w l0).fst, AVal.str (R p w l0).snd]) []) else none) := by kernel_rfl
def layFdc0 (S : Int → Bs → Int → Int × Bs) : Lay := Lay.nil.addF 137 (pwTold S)
theorem fdc_step (S : Int → Bs → Int → Int × Bs) (R : FdF) (p : Int) (w : Bs) (f : Bool) (l : Bs) (n i : Int) (H : Heap) (D : List (FuncId × List AVal)) (k : Kont) : lturn Tryz.prog (layFdc0 S) (fdFH R) 120 2 [0,1,11,12,13] [] [0,1] [] (stL 27 [0,1,11,12,13] [.int .i64 p, .str w, encL f byteRow 0 l, .int .i64 n, .int .i64 i] [] [] H D) k = (
 let n0 : Int := (↑(List.getD l i.toNat 0).toNat : Int);
  bif decide (i < n) then bif decide (0 ≤ i) && decide (i < (↑(List.length l) : Int)) then bif okc n0 && decide (List.length w ≤ 1048576) then k AExit.normal (stL 27 [0, 1, 11, 12, 13] [AVal.int .i64 (S p w n0).fst, AVal.str (S p w n0).snd, AVal.list f (List.length l) fun (i : Nat) => [AVal.int .u8 (↑(List.getD l i 0).toNat : Int)], AVal.int .i64 n, AVal.int .i64 (IntKind.i64.wrap (i + 1))] [] [] H D) else none else none else k (AExit.exit 0) (stL 27 [0, 1] [AVal.int .i64 p, AVal.str w] [] [] H D)) := by kernel_rfl
noncomputable def layFdc (S : Int → Bs → Int → Int × Bs) (R : FdF) : Lay := (layFdc0 S).addL 120 (fdFH R)
theorem fdc_fun (S : Int → Bs → Int → Int × Bs) (R : FdF) (p : Int) (w s : Bs) (k : Out → Ans) : iFun Tryz.prog ((layFdc S R).hd Tryz.prog) (layFdc S R).fhs 0 120 [.int .i64 p, .str w, .str s] [] k = (
 let l0 : List UInt8 := decL (fun (r : List AVal) => byteOf r) (AVal.list false (List.length s) fun (i : Nat) => [AVal.int .u8 (↑(List.getD s i 0).toNat : Int)]);
 let m1 : Nat := l0.length;
  bif tst ((okpw p w = true ∧ Int.toNat 0 = 0 ∧ m1 ≤ 1099511627776) ∧ SubTL [AVal.int .i64 p, AVal.str w, AVal.list false (List.length s) fun (i : Nat) => [AVal.int .u8 (↑(List.getD s i 0).toNat : Int)], AVal.int .i64 (↑(List.length s) : Int), AVal.int .i64 0] [AVal.int .i64 p, AVal.str w, AVal.list false m1 fun (i : Nat) => [AVal.int .u8 (↑((decL (fun (r : List AVal) => byteOf r) (AVal.list false (List.length s) fun (i : Nat) => [AVal.int .u8 (↑(List.getD s i 0).toNat : Int)])).getD i 0).toNat : Int)], AVal.int .i64 (↑m1 : Int), AVal.int .i64 (↑(Int.toNat 0) : Int)] ∧ ([] : List (List AVal)) = [] ∧ ([] : Heap) = []) then k (Out.ret (AVal.tuple [AVal.int .i64 (R p w l0).fst, AVal.str (R p w l0).snd]) []) else none) := by kernel_rfl
end Go.Mu
namespace Go.Mu
open Go Go.Proofs
theorem feedP_snoc (f : Int → Bs → UInt8 → Int × Bs) : ∀ (s : Bs) (p : Int) (w : Bs) (c : UInt8), feedP f p w (s ++ [c]) = f (feedP f p w s).1 (feedP f p w s).2 c
 | [], p, w, c => rfl
 | b :: s, p, w, c => feedP_snoc f s (f p w b).1 (f p w b).2 c
theorem feedP_take (f : Int → Bs → UInt8 → Int × Bs) (l : Bs) (p : Int) (w : Bs) (i : Nat) (h : i < l.length) : feedP f p w (l.take (i + 1)) = f (feedP f p w (l.take i)).1 (feedP f p w (l.take i)).2 (l.getD i 0) := by
 have e : l.take (i + 1) = l.take i ++ [l.getD i 0] := by
  rw [List.take_add_one, List.getElem?_eq_getElem h, List.getD_eq_getElem?_getD, List.getElem?_eq_getElem h]; rfl
 rw [e, feedP_snoc]
theorem okpw_is {p : Int} {w : Bs} (h : okpw p w = true) : PW (p, w) := by
 unfold okpw at h
 simp only [Bool.and_eq_true, decide_eq_true_eq] at h
 exact ⟨h.1.1, h.1.2, h.2⟩
theorem okpw_of {p : Int} {w : Bs} (h : PW (p, w)) : okpw p w = true := by
 unfold okpw
 rw [dT h.1, dT h.2.1, dT h.2.2]; rfl
theorem decB_back (f : Bool) (l : Bs) : decL decB (AVal.list f l.length fun (i : Nat) => [AVal.int .u8 (↑(l.getD i 0).toNat : Int)]) = l := decL_encL (g := decB) (f := byteRow) (d := 0) (full := f) (fun a => byteOf_u8 a) l
theorem fdTold_ok {g : FuncId} {R : FdF} (h : ∀ p w s, PW (p, w) → s.length ≤ 1099511627776 → CallOK Tryz.prog g [.int .i64 p, .str w, .str s] [] (.ret (.tuple [.int .i64 (R p w s).1, .str (R p w s).2]) [])) : ∀ xs H k out, fdTold R xs H k = some out → ∃ o, CallOK Tryz.prog g xs H o ∧ k o = some out := mkFS_ok fun ys xs e hk => by
 obtain ⟨p, w, s, rfl⟩ : ∃ p w s, xs = [.int .i64 p, .str w, .str s] := ⟨_, _, _, e⟩
 simp only [Bool.and_eq_true] at hk
 exact ⟨_, fun k => rfl, h p w s (okpw_is hk.1) (of_decide_eq_true hk.2)⟩
theorem layFdu0_ok : (layFdu0 urlP).OK Tryz.prog := Lay.nil_ok.addF (pwTold_ok url_ok)
noncomputable abbrev fduTurn := lturn Tryz.prog (layFdu0 urlP) (fdFH (feedP urlStep)) 118 2 [0,1,11,12,13] [] [0,1] []
theorem fduSp_ok : SpOK fduTurn 27 [0,1,11,12,13] [] [0,1] [] (fdSp (feedP urlStep)) := mkL_ok fun a h => by
 obtain ⟨p, w, f, l, i, H⟩ := a
 obtain ⟨h1, h2, h3⟩ := h
 simp only at h1 h2 h3
 subst h2
 have hp := okpw_is h1
 refine ⟨_, _, _, _, fun k => rfl, ?_⟩
 have hr := seq_runs (turn := fduTurn) (n := 27) (l := [0,1,11,12,13]) (m := []) (lx := [0,1]) (mx := []) (fun i => [.int .i64 (feedP urlStep p w (l.take i)).1, .str (feedP urlStep p w (l.take i)).2, encL f byteRow 0 l, .int .i64 l.length, .int .i64 (i : Nat)]) (fun _ => []) (fun _ => H) l.length (e := .exit 0) (vs' := [.int .i64 (feedP urlStep p w l).1, .str (feedP urlStep p w l).2]) (bs' := []) (H' := H) (by simp)
  (fun i hi D k => by
   have w1 : IntKind.i64.wrap ((i : Int) + 1) = ((i + 1 : Nat) : Int) := wrap_add1 (by omega)
   have hq : PW (feedP urlStep p w (l.take i)) := feedP_pw urlStep_pw (l.take i) p w hp
   have hw := hq.2.2
   refine (fdu_step urlP (feedP urlStep) _ _ f l l.length i H D k).trans ?_
   have e : urlP (feedP urlStep p w (l.take i)).1 (feedP urlStep p w (l.take i)).2 ((l.getD i 0).toNat : Int) = feedP urlStep p w (l.take (i + 1)) := by
    rw [feedP_take urlStep l p w i hi]
    unfold urlP
    rw [u8_back]
   simp only [w1, Int.toNat_natCast, e, okc_u8, dT (show (i : Int) < (l.length : Int) by omega), dT (show (0 : Int) ≤ (i : Int) by omega), dT (show (feedP urlStep p w (l.take i)).2.length ≤ 1048576 by omega), Bool.and_self, cond_true]
   rfl)
  (fun D k => by
   refine (fdu_step urlP (feedP urlStep) _ _ f l l.length (l.length : Nat) H D k).trans ?_
   simp only [dF (show ¬ ((l.length : Nat) : Int) < (l.length : Int) by omega), cond_false, List.take_length])
 exact hr
theorem layFdu_ok : (layFdu urlP (feedP urlStep)).OK Tryz.prog := layFdu0_ok.loop1 (id := 2) (by kernel_rfl) (by kernel_rfl) (by kernel_rfl) fduSp_ok
theorem fdu_ok (p : Int) (w s : Bs) (hp : PW (p, w)) (hs : s.length ≤ 1099511627776) : CallOK Tryz.prog 118 [.int .i64 p, .str w, .str s] [] (.ret (.tuple [.int .i64 (feedP urlStep p w s).1, .str (feedP urlStep p w s).2]) []) := by
 have e : decL (fun (r : List AVal) => byteOf r) (AVal.list false s.length fun (i : Nat) => [AVal.int .u8 (↑(s.getD i 0).toNat : Int)]) = s := decB_back false s
 refine layFdu_ok.callF (G := []) rfl (fun k => (fdu_fun urlP (feedP urlStep) p w s k).trans ?_)
 simp only [e]
 exact (congrArg (fun c => cond c _ none) (tst_true ⟨⟨okpw_of hp, rfl, hs⟩, .refl _, trivial, trivial⟩)).trans (cond_true _ _)
theorem fduTold_ok : ∀ xs H k out, fdTold (feedP urlStep) xs H k = some out → ∃ o, CallOK Tryz.prog 118 xs H o ∧ k o = some out := fdTold_ok fdu_ok
theorem layFdj0_ok : (layFdj0 jsstP).OK Tryz.prog := Lay.nil_ok.addF (pwTold_ok jsst_ok)
noncomputable abbrev fdjTurn := lturn Tryz.prog (layFdj0 jsstP) (fdFH (feedP jsStep)) 119 2 [0,1,11,12,13] [] [0,1] []
theorem fdjSp_ok : SpOK fdjTurn 27 [0,1,11,12,13] [] [0,1] [] (fdSp (feedP jsStep)) := mkL_ok fun a h => by
 obtain ⟨p, w, f, l, i, H⟩ := a
 obtain ⟨h1, h2, h3⟩ := h
 simp only at h1 h2 h3
 subst h2
 have hp := okpw_is h1
 refine ⟨_, _, _, _, fun k => rfl, ?_⟩
 have hr := seq_runs (turn := fdjTurn) (n := 27) (l := [0,1,11,12,13]) (m := []) (lx := [0,1]) (mx := []) (fun i => [.int .i64 (feedP jsStep p w (l.take i)).1, .str (feedP jsStep p w (l.take i)).2, encL f byteRow 0 l, .int .i64 l.length, .int .i64 (i : Nat)]) (fun _ => []) (fun _ => H) l.length (e := .exit 0) (vs' := [.int .i64 (feedP jsStep p w l).1, .str (feedP jsStep p w l).2]) (bs' := []) (H' := H) (by simp)
  (fun i hi D k => by
   have w1 : IntKind.i64.wrap ((i : Int) + 1) = ((i + 1 : Nat) : Int) := wrap_add1 (by omega)
   have hq : PW (feedP jsStep p w (l.take i)) := feedP_pw jsStep_pw (l.take i) p w hp
   have hw := hq.2.2
   refine (fdj_step jsstP (feedP jsStep) _ _ f l l.length i H D k).trans ?_
   have e : jsstP (feedP jsStep p w (l.take i)).1 (feedP jsStep p w (l.take i)).2 ((l.getD i 0).toNat : Int) = feedP jsStep p w (l.take (i + 1)) := by
    rw [feedP_take jsStep l p w i hi]
    unfold jsstP
    rw [u8_back]
   simp only [w1, Int.toNat_natCast, e, okc_u8, dT (show (i : Int) < (l.length : Int) by omega), dT (show (0 : Int) ≤ (i : Int) by omega), dT (show (feedP jsStep p w (l.take i)).2.length ≤ 1048576 by omega), Bool.and_self, cond_true]
   rfl)
  (fun D k => by
   refine (fdj_step jsstP (feedP jsStep) _ _ f l l.length (l.length : Nat) H D k).trans ?_
   simp only [dF (show ¬ ((l.length : Nat) : Int) < (l.length : Int) by omega), cond_false, List.take_length])
 exact hr
theorem layFdj_ok : (layFdj jsstP (feedP jsStep)).OK Tryz.prog := layFdj0_ok.loop1 (id := 2) (by kernel_rfl) (by kernel_rfl) (by kernel_rfl) fdjSp_ok
theorem fdj_ok (p : Int) (w s : Bs) (hp : PW (p, w)) (hs : s.length ≤ 1099511627776) : CallOK Tryz.prog 119 [.int .i64 p, .str w, .str s] [] (.ret (.tuple [.int .i64 (feedP jsStep p w s).1, .str (feedP jsStep p w s).2]) []) := by
 have e : decL (fun (r : List AVal) => byteOf r) (AVal.list false s.length fun (i : Nat) => [AVal.int .u8 (↑(s.getD i 0).toNat : Int)]) = s := decB_back false s
 refine layFdj_ok.callF (G := []) rfl (fun k => (fdj_fun jsstP (feedP jsStep) p w s k).trans ?_)
 simp only [e]
 exact (congrArg (fun c => cond c _ none) (tst_true ⟨⟨okpw_of hp, rfl, hs⟩, .refl _, trivial, trivial⟩)).trans (cond_true _ _)
theorem fdjTold_ok : ∀ xs H k out, fdTold (feedP jsStep) xs H k = some out → ∃ o, CallOK Tryz.prog 119 xs H o ∧ k o = some out := fdTold_ok fdj_ok
theorem layFdc0_ok : (layFdc0 csstP).OK Tryz.prog := Lay.nil_ok.addF (pwTold_ok csst_ok)
noncomputable abbrev fdcTurn := lturn Tryz.prog (layFdc0 csstP) (fdFH (feedP csStep)) 120 2 [0,1,11,12,13] [] [0,1] []
theorem fdcSp_ok : SpOK fdcTurn 27 [0,1,11,12,13] [] [0,1] [] (fdSp (feedP csStep)) := mkL_ok fun a h => by
 obtain ⟨p, w, f, l, i, H⟩ := a
 obtain ⟨h1, h2, h3⟩ := h
 simp only at h1 h2 h3
 subst h2
 have hp := okpw_is h1
 refine ⟨_, _, _, _, fun k => rfl, ?_⟩
 have hr := seq_runs (turn := fdcTurn) (n := 27) (l := [0,1,11,12,13]) (m := []) (lx := [0,1]) (mx := []) (fun i => [.int .i64 (feedP csStep p w (l.take i)).1, .str (feedP csStep p w (l.take i)).2, encL f byteRow 0 l, .int .i64 l.length, .int .i64 (i : Nat)]) (fun _ => []) (fun _ => H) l.length (e := .exit 0) (vs' := [.int .i64 (feedP csStep p w l).1, .str (feedP csStep p w l).2]) (bs' := []) (H' := H) (by simp)
  (fun i hi D k => by
   have w1 : IntKind.i64.wrap ((i : Int) + 1) = ((i + 1 : Nat) : Int) := wrap_add1 (by omega)
   have hq : PW (feedP csStep p w (l.take i)) := feedP_pw csStep_pw (l.take i) p w hp
   have hw := hq.2.2
   refine (fdc_step csstP (feedP csStep) _ _ f l l.length i H D k).trans ?_
   have e : csstP (feedP csStep p w (l.take i)).1 (feedP csStep p w (l.take i)).2 ((l.getD i 0).toNat : Int) = feedP csStep p w (l.take (i + 1)) := by
    rw [feedP_take csStep l p w i hi]
    unfold csstP
    rw [u8_back]
   simp only [w1, Int.toNat_natCast, e, okc_u8, dT (show (i : Int) < (l.length : Int) by omega), dT (show (0 : Int) ≤ (i : Int) by omega), dT (show (feedP csStep p w (l.take i)).2.length ≤ 1048576 by omega), Bool.and_self, cond_true]
   rfl)
  (fun D k => by
   refine (fdc_step csstP (feedP csStep) _ _ f l l.length (l.length : Nat) H D k).trans ?_
   simp only [dF (show ¬ ((l.length : Nat) : Int) < (l.length : Int) by omega), cond_false, List.take_length])
 exact hr
theorem layFdc_ok : (layFdc csstP (feedP csStep)).OK Tryz.prog := layFdc0_ok.loop1 (id := 2) (by kernel_rfl) (by kernel_rfl) (by kernel_rfl) fdcSp_ok
theorem fdc_ok (p : Int) (w s : Bs) (hp : PW (p, w)) (hs : s.length ≤ 1099511627776) : CallOK Tryz.prog 120 [.int .i64 p, .str w, .str s] [] (.ret (.tuple [.int .i64 (feedP csStep p w s).1, .str (feedP csStep p w s).2]) []) := by
 have e : decL (fun (r : List AVal) => byteOf r) (AVal.list false s.length fun (i : Nat) => [AVal.int .u8 (↑(s.getD i 0).toNat : Int)]) = s := decB_back false s
 refine layFdc_ok.callF (G := []) rfl (fun k => (fdc_fun csstP (feedP csStep) p w s k).trans ?_)
 simp only [e]
 exact (congrArg (fun c => cond c _ none) (tst_true ⟨⟨okpw_of hp, rfl, hs⟩, .refl _, trivial, trivial⟩)).trans (cond_true _ _)
theorem fdcTold_ok : ∀ xs H k out, fdTold (feedP csStep) xs H k = some out → ∃ o, CallOK Tryz.prog 120 xs H o ∧ k o = some out := fdTold_ok fdc_ok
end Go.Mu
namespace Go.Mu
open Go Go.Proofs
theorem beqS_f {s x : Bs} (h : ¬ s = x) : (s == x) = false := by simpa using h
theorem elm_ok (s : Bs) : CallOK Tryz.prog 122 [.str s] [] (.ret (.int .i64 (elmK s)) []) := Lay.nil_ok.callF (G := []) rfl (fun k => by
 refine (elm_fun s k).trans ?_
 by_cases h0 : s = [116, 105, 116, 108, 101]
 · subst h0; rfl
 by_cases h1 : s = [116, 101, 120, 116, 97, 114, 101, 97]
 · subst h1; rfl
 by_cases h2 : s = [115, 116, 121, 108, 101]
 · subst h2; rfl
 by_cases h3 : s = [115, 99, 114, 105, 112, 116]
 · subst h3; rfl
 by_cases h4 : s = [112, 108, 97, 105, 110, 116, 101, 120, 116]
 · subst h4; rfl
 by_cases h5 : s = [120, 109, 112]
 · subst h5; rfl
 by_cases h6 : s = [105, 102, 114, 97, 109, 101]
 · subst h6; rfl
 by_cases h7 : s = [110, 111, 101, 109, 98, 101, 100]
 · subst h7; rfl
 by_cases h8 : s = [110, 111, 102, 114, 97, 109, 101, 115]
 · subst h8; rfl
 by_cases h9 : s = [110, 111, 115, 99, 114, 105, 112, 116]
 · subst h9; rfl
 unfold elmK
 simp only [beqS_f h0, beqS_f h1, beqS_f h2, beqS_f h3, beqS_f h4, beqS_f h5, beqS_f h6, beqS_f h7, beqS_f h8, beqS_f h9, cond_false, Bool.or_self])
theorem atr_ok (s a : Bs) : CallOK Tryz.prog 60 [.str s, .str a] [] (.ret (.int .i64 (atrK s a)) []) := Lay.nil_ok.callF (G := []) rfl (fun k => by
 refine (atr_fun s a k).trans ?_
 by_cases h0 : a = [104, 114, 101, 102]
 · subst h0; rfl
 by_cases h1 : a = [115, 114, 99]
 · subst h1; rfl
 by_cases h2 : a = [97, 99, 116, 105, 111, 110]
 · subst h2; rfl
 by_cases h3 : a = [102, 111, 114, 109, 97, 99, 116, 105, 111, 110]
 · subst h3; rfl
 by_cases h4 : a = [99, 105, 116, 101]
 · subst h4; rfl
 by_cases h5 : a = [112, 111, 115, 116, 101, 114]
 · subst h5; rfl
 by_cases h6 : a = [98, 97, 99, 107, 103, 114, 111, 117, 110, 100]
 · subst h6; rfl
 by_cases h7 : a = [108, 111, 110, 103, 100, 101, 115, 99]
 · subst h7; rfl
 by_cases h8 : a = [109, 97, 110, 105, 102, 101, 115, 116]
 · subst h8; rfl
 by_cases h9 : a = [105, 99, 111, 110]
 · subst h9; rfl
 by_cases h10 : a = [100, 97, 116, 97]
 · subst h10; show (bif s == [111, 98, 106, 101, 99, 116] then k (.ret (.int .i64 1) []) else k (.ret (.int .i64 0) [])) = k (.ret (.int .i64 (bif s == [111, 98, 106, 101, 99, 116] then 1 else 0)) []); cases s == [111, 98, 106, 101, 99, 116] <;> rfl
 by_cases h11 : a = [115, 116, 121, 108, 101]
 · subst h11; rfl
 by_cases h12 : a = [115, 114, 99, 100, 111, 99]
 · subst h12; rfl
 by_cases h13 : a = [115, 114, 99, 115, 101, 116]
 · subst h13; rfl
 by_cases h14 : a = [104, 116, 116, 112, 45, 101, 113, 117, 105, 118]
 · subst h14; rfl
 by_cases h15 : a = [112, 105, 110, 103]
 · subst h15; rfl
 by_cases h16 : a = []
 · subst h16; rfl
 have g2 : (decide (2 ≤ (a.length : Int)) || !decide ((a.length : Int) ≥ 2)) = true := Bool.or_not_self _
 have g5 : (decide (5 ≤ (a.length : Int)) || !decide ((a.length : Int) ≥ 5)) = true := Bool.or_not_self _
 unfold atrK
 simp only [beqS_f h0, beqS_f h1, beqS_f h2, beqS_f h3, beqS_f h4, beqS_f h5, beqS_f h6, beqS_f h7, beqS_f h8, beqS_f h9, beqS_f h10, beqS_f h11, beqS_f h12, beqS_f h13, beqS_f h14, beqS_f h15, beqS_f h16, List.contains_cons, List.contains_nil, cond_false, Bool.or_self, g2, g5, cond_true]
 show (bif hpB [111, 110] a then k (.ret (.int .i64 2) []) else bif hpB [120, 109, 108, 110, 115] a then k (.ret (.int .i64 4) []) else k (.ret (.int .i64 0) [])) = _
 cases hpB [111, 110] a <;> cases hpB [120, 109, 108, 110, 115] a <;> rfl)
def elmTold : FSp := mkFS [.s] (fun _ => true) (fun xs k => k (.ret (.int .i64 (elmK (aS xs 0))) []))
theorem elmTold_ok : ∀ xs H k out, elmTold xs H k = some out → ∃ o, CallOK Tryz.prog 122 xs H o ∧ k o = some out := mkFS_ok fun ys xs e hk => by
 obtain ⟨s, rfl⟩ : ∃ s, xs = [.str s] := ⟨_, e⟩
 exact ⟨_, fun k => rfl, elm_ok s⟩
def atrTold (A : Bs → Bs → Int) : FSp := mkFS [.s, .s] (fun _ => true) (fun xs k => k (.ret (.int .i64 (A (aS xs 0) (aS xs 1))) []))
theorem atrTold_ok : ∀ xs H k out, atrTold atrK xs H k = some out → ∃ o, CallOK Tryz.prog 60 xs H o ∧ k o = some out := mkFS_ok fun ys xs e hk => by
 obtain ⟨s, a, rfl⟩ : ∃ s a, xs = [.str s, .str a] := ⟨_, _, e⟩
 exact ⟨_, fun k => rfl, atr_ok s a⟩
theorem layLo_ok : (Lay.nil.addF 108 lowTold).OK Tryz.prog := Lay.nil_ok.addF lowTold_ok
theorem starts_ok (s a : Bs) (hs : s.length ≤ 1048576) (ha : a.length ≤ 1048576) : CallOK Tryz.prog 123 [.str s, .str a] [] (.ret (.bool (startsB s a)) []) := layLo_ok.callF (G := []) rfl (fun k => by
 refine (starts_fun s a k).trans ?_
 have e1 : (decide ((a.length : Int) ≤ (s.length : Int)) || !decide ((s.length : Int) ≥ (a.length : Int))) = true := Bool.or_not_self _
 have e2 : List.drop (Int.toNat 0) (List.take (Int.toNat (a.length : Int)) s) = s.take a.length := rfl
 have e3 : (s.take a.length).length ≤ 1099511627776 := by rw [List.length_take]; omega
 have e4 : decide ((s.length : Int) ≥ (a.length : Int)) = decide (s.length ≥ a.length) := by rw [decide_eq_decide]; omega
 simp only [e1, e2, dT e3, dT (show a.length ≤ 1099511627776 by omega), cond_true, lowM_small]
 unfold startsB
 rw [e4]
 cases decide (s.length ≥ a.length) <;> rfl)
def startsTold (S : Bs → Bs → Bool) : FSp := mkFS [.s, .s] (fun xs => decide ((aS xs 0).length ≤ 1048576) && decide ((aS xs 1).length ≤ 1048576)) (fun xs k => k (.ret (.bool (S (aS xs 0) (aS xs 1))) []))
theorem startsTold_ok : ∀ xs H k out, startsTold startsB xs H k = some out → ∃ o, CallOK Tryz.prog 123 xs H o ∧ k o = some out := mkFS_ok fun ys xs e hk => by
 obtain ⟨s, a, rfl⟩ : ∃ s a, xs = [.str s, .str a] := ⟨_, _, e⟩
 simp only [Bool.and_eq_true] at hk
 exact ⟨_, fun k => rfl, starts_ok s a (of_decide_eq_true hk.1) (of_decide_eq_true hk.2)⟩
end Go.Mu
namespace Go.Mu
open Go Go.Proofs
def encSS (s : SS) : List AVal := [.int .i64 s.k, .str s.el, .str s.ar, .int .u8 s.dl.toNat, .str s.pe, .str s.rf, .int .i64 s.pt, .str s.wd]
def decSS (x : List AVal) : SS := ⟨intOf (x.getD 0 .undef), strOf (x.getD 1 .undef), strOf (x.getD 2 .undef), u8 (intOf (x.getD 3 .undef)), strOf (x.getD 4 .undef), strOf (x.getD 5 .undef), intOf (x.getD 6 .undef), strOf (x.getD 7 .undef)⟩
theorem decSS_enc (s : SS) : decSS (encSS s) = s := by
 unfold decSS encSS
 simp only [List.getD_cons_zero, List.getD_cons_succ, intOf, strOf, u8_back]
def isS (x : List AVal) : Prop := x = encSS (decSS x)
theorem isS_enc (s : SS) : isS (encSS s) := by unfold isS; rw [decSS_enc]
def cellsG : AVal → List AVal
 | .agg x => x
 | _ => []
noncomputable def ksTold (F : List AVal → Int) : FSp := mkF (fun xs H => cellsG (xs.getD 0 .undef)) isS (fun x => [.agg x]) (fun _ => []) (fun x k => k (.ret (.int .i64 (F x)) []))
noncomputable def bsTold (F : List AVal → Bool) : FSp := mkF (fun xs H => cellsG (xs.getD 0 .undef)) isS (fun x => [.agg x]) (fun _ => []) (fun x k => k (.ret (.bool (F x)) []))
def layMk0 (A : Bs → Bs → Int) : Lay := Lay.nil.addF 60 (atrTold A)
theorem mkind_fun (A : Bs → Bs → Int) (s : SS) (k : Out → Ans) : iFun Tryz.prog ((layMk0 A).hd Tryz.prog) (layMk0 A).fhs 0 29 [.agg (encSS s)] [] k = (
 let n0 : Int := (↑(List.length s.el) : Int);
 let c1 : Bool := decide (n0 ≥ 1);
  bif decide (1 ≤ n0) || !c1 then
  bif
  bif !bif decide (s.k ≥ 8) then decide (s.k ≤ 10) else false then true
  else bif c1 then List.drop (Int.toNat 0) (List.take (Int.toNat 1) s.el) == [47] else false then
  k (Out.ret (AVal.int .i64 0) [])
  else k (Out.ret (AVal.int .i64 (A s.el s.ar)) [])
  else none) := by kernel_rfl
noncomputable def layMk1 (K : List AVal → Int) : Lay := Lay.nil.addF 29 (ksTold K)
theorem msub_fun (K : List AVal → Int) (s : SS) (k : Out → Ans) : iFun Tryz.prog ((layMk1 K).hd Tryz.prog) (layMk1 K).fhs 0 25 [.agg (encSS s)] [] k = (
 let z0 := [AVal.int .i64 s.k, AVal.str s.el, AVal.str s.ar, AVal.int .u8 (↑s.dl.toNat : Int), AVal.str s.pe, AVal.str s.rf, AVal.int .i64 s.pt, AVal.str s.wd];
 let c0 : Bool := tst (isS (cellsG (AVal.agg z0)) ∧ SubL [AVal.agg z0] [AVal.agg (cellsG (AVal.agg z0))] ∧ ([] : Heap) = []);
 let n1 : Int := K (cellsG (AVal.agg z0));
  bif c0 then bif c0 then k (Out.ret (AVal.bool (bif bif decide (s.k ≥ 18) then decide (s.k ≤ 19) else false then true else bif bif bif decide (s.k ≥ 9) then decide (s.k ≤ 10) else false then decide (n1 ≥ 1) else false then decide (n1 ≤ 3) else false)) []) else none else none) := by kernel_rfl
noncomputable def layMk2 (B : List AVal → Bool) : Lay := Lay.nil.addF 25 (bsTold B)
theorem mchk_fun (B : List AVal → Bool) (s : SS) (k : Out → Ans) : iFun Tryz.prog ((layMk2 B).hd Tryz.prog) (layMk2 B).fhs 0 14 [.agg (encSS s)] [] k = (
 let c0 : Bool := decide (s.k ≤ 19);
 let n1 : Int := (↑s.dl.toNat : Int);
 let c2 : Bool := decide (s.k ≤ 10);
 let z0 := [AVal.int .i64 s.k, AVal.str s.el, AVal.str s.ar, AVal.int .u8 n1, AVal.str s.pe, AVal.str s.rf, AVal.int .i64 s.pt, AVal.str s.wd];
  bif !bif decide (s.k ≥ 0) then c0 else false then k (Out.ret (AVal.int .i64 4) []) else bif tst (isS (cellsG (AVal.agg z0)) ∧ SubL [AVal.agg z0] [AVal.agg (cellsG (AVal.agg z0))] ∧ ([] : Heap) = []) then bif !bif bif bif bif bif bif bif bif bif bif bif bif bif decide ((↑(List.length s.el) : Int) ≤ 33) then decide ((↑(List.length s.ar) : Int) ≤ 32) else false then decide ((↑(List.length s.pe) : Int) ≤ 34) else false then decide ((↑(List.length s.rf) : Int) ≤ 16) else false then decide ((↑(List.length s.wd) : Int) ≤ 16) else false then decide (s.pt ≥ 0) else false then decide (s.pt ≤ 15) else false then bif bif s.el == [] then true else bif decide (s.k ≥ 3) then decide (s.k ≤ 12) else false then true else bif decide (s.k ≥ 17) then c0 else false else false then bif s.ar == [] then true else bif decide (s.k ≥ 6) then c2 else false else false then (s.k == 9) == (n1 != 0) else false then bif bif n1 == 0 then true else n1 == 34 then true else n1 == 39 else false then bif s.pe == [] then true else bif decide (s.k ≥ 16) then c0 else false else false then bif bif bif s.rf == [] then true else s.k == 0 then true else s.k == 17 then true else bif decide (s.k ≥ 9) then c2 else false else false then bif B (cellsG (AVal.agg z0)) then true else bif s.pt == 0 then s.wd == [] else false else false then k (Out.ret (AVal.int .i64 9) []) else k (Out.ret (AVal.int .i64 0) []) else none) := by kernel_rfl
theorem prt_fun (s : Bs) (k : Out → Ans) : iFun Tryz.prog (Lay.nil.hd Tryz.prog) Lay.nil.fhs 0 113 [.str s] [] k = (
 let n0 : Int := (↑(List.length s) : Int);
 let c1 : Bool := decide (1 ≤ n0);
 let c2 : Bool := decide (n0 ≥ 1);
 let l3 : List UInt8 := List.drop (Int.toNat 1) (List.take n0.toNat s);
 let n4 : Int := (↑l3.length : Int);
 let c5 : Bool := !l3 == [];
  bif c1 || !c2 then bif !bif c2 then List.drop (Int.toNat 0) (List.take (Int.toNat 1) s) == [35] else false then bif decide (0 < n0) || true then k (Out.ret (AVal.tuple [AVal.str s, AVal.bool false, AVal.bool false]) []) else none else bif c1 && decide (n0 ≤ n0) then bif decide (0 < n4) || !c5 then bif bif c5 then IntKind.u8.wrap (↑(BitVec.ofInt 8 (↑(l3.getD 0 0).toNat : Int) ||| BitVec.ofInt 8 32).toNat : Int) == 120 else false then bif decide (1 ≤ n4) && decide (n4 ≤ n4) then k (Out.ret (AVal.tuple [AVal.str (List.drop (Int.toNat 1) (List.take n4.toNat l3)), AVal.bool true, AVal.bool true]) []) else none else k (Out.ret (AVal.tuple [AVal.str l3, AVal.bool false, AVal.bool true]) []) else none else none else none) := by kernel_rfl
end Go.Mu
namespace Go.Mu
open Go Go.Proofs
theorem ek0 (c : UInt8) : ((c.toNat : Int) == 0) = (c == 0) := eqk c 0 rfl
theorem dl33 (n : Nat) : decide ((n : Int) ≤ 33) = decide (n ≤ 33) := by rw [decide_eq_decide]; omega
theorem dl32 (n : Nat) : decide ((n : Int) ≤ 32) = decide (n ≤ 32) := by rw [decide_eq_decide]; omega
theorem dl34 (n : Nat) : decide ((n : Int) ≤ 34) = decide (n ≤ 34) := by rw [decide_eq_decide]; omega
theorem dle16 (n : Nat) : decide ((n : Int) ≤ 16) = decide (n ≤ 16) := by rw [decide_eq_decide]; omega
theorem ksTold_ok {f : FuncId} {F : SS → Int} (h : ∀ s, CallOK Tryz.prog f [.agg (encSS s)] [] (.ret (.int .i64 (F s)) [])) : ∀ xs H k out, ksTold (fun x => F (decSS x)) xs H k = some out → ∃ o, CallOK Tryz.prog f xs H o ∧ k o = some out := mkF_ok fun x hx => by
 have hx : x = encSS (decSS x) := hx
 generalize hs : decSS x = s at hx
 subst hx
 refine ⟨_, fun k => rfl, ?_⟩
 show CallOK _ _ _ _ (.ret (.int .i64 (F (decSS (encSS s)))) [])
 rw [hs]
 exact h s
theorem bsTold_ok {f : FuncId} {F : SS → Bool} (h : ∀ s, CallOK Tryz.prog f [.agg (encSS s)] [] (.ret (.bool (F s)) [])) : ∀ xs H k out, bsTold (fun x => F (decSS x)) xs H k = some out → ∃ o, CallOK Tryz.prog f xs H o ∧ k o = some out := mkF_ok fun x hx => by
 have hx : x = encSS (decSS x) := hx
 generalize hs : decSS x = s at hx
 subst hx
 refine ⟨_, fun k => rfl, ?_⟩
 show CallOK _ _ _ _ (.ret (.bool (F (decSS (encSS s)))) [])
 rw [hs]
 exact h s
theorem layMk0_ok : (layMk0 atrK).OK Tryz.prog := Lay.nil_ok.addF atrTold_ok
theorem kind_ok (s : SS) : CallOK Tryz.prog 29 [.agg (encSS s)] [] (.ret (.int .i64 (kindM s)) []) := layMk0_ok.callF (G := []) rfl (fun k => by
 refine (mkind_fun atrK s k).trans ?_
 have g : (decide (1 ≤ (s.el.length : Int)) || !decide ((s.el.length : Int) ≥ 1)) = true := Bool.or_not_self _
 simp only [g, cond_true]
 show (bif (bif !(bif decide (s.k ≥ 8) then decide (s.k ≤ 10) else false) then true else hpB [47] s.el) then _ else _) = k (.ret (.int .i64 (bif !(decide (s.k ≥ 8) && decide (s.k ≤ 10)) || hpB [47] s.el then 0 else atrK s.el s.ar)) [])
 rw [bif_and, bif_or]
 cases (!(decide (s.k ≥ 8) && decide (s.k ≤ 10)) || hpB [47] s.el) <;> rfl)
noncomputable def kindR (x : List AVal) : Int := kindM (decSS x)
theorem kindR_enc (s : SS) : kindR (encSS s) = kindM s := by unfold kindR; rw [decSS_enc]
theorem kindTold_ok : ∀ xs H k out, ksTold kindR xs H k = some out → ∃ o, CallOK Tryz.prog 29 xs H o ∧ k o = some out := ksTold_ok kind_ok
theorem layMk1_ok : (layMk1 kindR).OK Tryz.prog := Lay.nil_ok.addF kindTold_ok
theorem tstS (s : SS) {xs : List AVal} : tst (isS (encSS s) ∧ SubL xs xs ∧ True) = true := tst_true ⟨isS_enc s, .refl _, trivial⟩
theorem sub_ok (s : SS) : CallOK Tryz.prog 25 [.agg (encSS s)] [] (.ret (.bool (subB s)) []) := layMk1_ok.callF (G := []) rfl (fun k => by
 refine (msub_fun kindR s k).trans ?_
 have e1 := tstS s (xs := [.agg (encSS s)])
 have e2 : kindR (cellsG (.agg (encSS s))) = kindM s := kindR_enc s
 unfold encSS at e1 e2
 unfold cellsG at e2 ⊢
 simp only at e2 ⊢
 simp only [e1, e2, cond_true, bif_and, bif_or]
 rfl)
noncomputable def subR_ (x : List AVal) : Bool := subB (decSS x)
theorem subR_enc (s : SS) : subR_ (encSS s) = subB s := by unfold subR_; rw [decSS_enc]
theorem subTold_ok : ∀ xs H k out, bsTold subR_ xs H k = some out → ∃ o, CallOK Tryz.prog 25 xs H o ∧ k o = some out := bsTold_ok sub_ok
theorem layMk2_ok : (layMk2 subR_).OK Tryz.prog := Lay.nil_ok.addF subTold_ok
theorem check_ok (s : SS) : CallOK Tryz.prog 14 [.agg (encSS s)] [] (.ret (.int .i64 (markE s)) []) := layMk2_ok.callF (G := []) rfl (fun k => by
 refine (mchk_fun subR_ s k).trans ?_
 have e1 := tstS s (xs := [.agg (encSS s)])
 have e2 : subR_ (cellsG (.agg (encSS s))) = subB s := subR_enc s
 unfold encSS at e1 e2
 unfold cellsG at e2 ⊢
 simp only at e2 ⊢
 simp only [e1, e2, cond_true, bif_and, bif_or, dl33, dl32, dl34, dle16, bne, ek0, ek34, ek39]
 show _ = k (.ret (.int .i64 (bif !(decide (s.k ≥ 0) && decide (s.k ≤ 19)) then 4 else bif markOk s then 0 else 9)) [])
 have e3 : markOk s = (decide (s.el.length ≤ 33) && decide (s.ar.length ≤ 32) && decide (s.pe.length ≤ 34) && decide (s.rf.length ≤ 16) && decide (s.wd.length ≤ 16) && decide (s.pt ≥ 0) && decide (s.pt ≤ 15)
  && (s.el == [] || (decide (s.k ≥ 3) && decide (s.k ≤ 12)) || (decide (s.k ≥ 17) && decide (s.k ≤ 19))) && (s.ar == [] || (decide (s.k ≥ 6) && decide (s.k ≤ 10)))
  && ((s.k == 9) == !(s.dl == 0)) && (s.dl == 0 || s.dl == 34 || s.dl == 39)
  && (s.pe == [] || (decide (s.k ≥ 16) && decide (s.k ≤ 19))) && (s.rf == [] || s.k == 0 || s.k == 17 || (decide (s.k ≥ 9) && decide (s.k ≤ 10))) && (subB s || (s.pt == 0 && s.wd == []))) := rfl
 rw [← e3]
 cases (decide (s.k ≥ 0) && decide (s.k ≤ 19)) <;> cases markOk s <;> rfl)
noncomputable def markR (x : List AVal) : Int := markE (decSS x)
theorem markR_enc (s : SS) : markR (encSS s) = markE s := by unfold markR; rw [decSS_enc]
theorem markTold_ok : ∀ xs H k out, ksTold markR xs H k = some out → ∃ o, CallOK Tryz.prog 14 xs H o ∧ k o = some out := ksTold_ok check_ok
def orx (c : UInt8) : Bool := IntKind.u8.wrap (↑(BitVec.ofInt 8 (↑c.toNat : Int) ||| BitVec.ofInt 8 32).toNat : Int) == 120
def prtM (s : Bs) : Bs × Bool × Bool := bif !hpB [35] s then (s, false, false) else bif (bif !s.drop 1 == [] then orx ((s.drop 1).getD 0 0) else false) then ((s.drop 1).drop 1, true, true) else (s.drop 1, false, true)
theorem prt_ok (s : Bs) : CallOK Tryz.prog 113 [.str s] [] (.ret (.tuple [.str (prtM s).1, .bool (prtM s).2.1, .bool (prtM s).2.2]) []) := Lay.nil_ok.callF (G := []) rfl (fun k => by
 refine (prt_fun s k).trans ?_
 match s with
 | [] => rfl
 | [c] =>
  show (bif !(bif true then [c] == [35] else false) then _ else _) = _
  have e : hpB [35] [c] = ([c] == [35]) := rfl
  unfold prtM
  rw [e, cond_true]
  cases [c] == [35] <;> rfl
 | c :: d :: t =>
  have e3 : List.drop (Int.toNat 1) (List.take (Int.toNat ((c :: d :: t).length : Int)) (c :: d :: t)) = d :: t := by rw [Int.toNat_natCast, List.take_length]; rfl
  have e4 : List.drop (Int.toNat 1) (List.take (Int.toNat ((d :: t).length : Int)) (d :: t)) = t := by rw [Int.toNat_natCast, List.take_length]; rfl
  have l1 : ((c :: d :: t).length : Int) ≥ 1 := by simp only [List.length_cons]; omega
  have l2 : ((d :: t).length : Int) ≥ 1 := by simp only [List.length_cons]; omega
  have hh : (List.drop (Int.toNat 0) (List.take (Int.toNat 1) (c :: d :: t)) == [35]) = ([c] == [35]) := rfl
  have e : hpB [35] (c :: d :: t) = ([c] == [35]) := by
   unfold hpB
   rw [dT (show ((c :: d :: t).length : Int) ≥ (([35] : Bs).length : Int) by simp only [List.length_cons, List.length_nil]; omega)]
   rfl
  have hn : (!(d :: t : Bs) == []) = true := rfl
  have ho : (IntKind.u8.wrap (↑(BitVec.ofInt 8 (↑((d :: t : Bs).getD 0 0).toNat : Int) ||| BitVec.ofInt 8 32).toNat : Int) == 120) = orx d := rfl
  simp only [e3, e4, hh, hn, ho, dT l1, dT (show (1 : Int) ≤ ((c :: d :: t).length : Int) from l1), dT (show (1 : Int) ≤ ((d :: t).length : Int) from l2), dT (show (0 : Int) < ((d :: t).length : Int) by omega), dT (show (0 : Int) < ((c :: d :: t).length : Int) by omega), dT (Int.le_refl _), Bool.true_or, Bool.and_self, Bool.or_true, cond_true]
  have ep : prtM (c :: d :: t) = bif !([c] == [35]) then (c :: d :: t, false, false) else bif orx d then (t, true, true) else (d :: t, false, true) := by
   unfold prtM
   rw [e]
   rfl
  rw [ep]
  cases [c] == [35] <;> cases orx d <;> rfl)
def prtTold (F : Bs → Bs × Bool × Bool) : FSp := mkFS [.s] (fun _ => true) (fun xs k => k (.ret (.tuple [.str (F (aS xs 0)).1, .bool (F (aS xs 0)).2.1, .bool (F (aS xs 0)).2.2]) []))
theorem prtTold_ok : ∀ xs H k out, prtTold prtM xs H k = some out → ∃ o, CallOK Tryz.prog 113 xs H o ∧ k o = some out := mkFS_ok fun ys xs e hk => by
 obtain ⟨s, rfl⟩ : ∃ s, xs = [.str s] := ⟨_, e⟩
 exact ⟨_, fun k => rfl, prt_ok s⟩
end Go.Mu
namespace Go.Mu
open Go Go.Proofs
def unfNames : List Bs := [[97,109,112],[108,116],[103,116],[113,117,111,116],[97,112,111,115]]
noncomputable def unfSp : LSp := mkL (fun vs _ H => (aS vs 0, H)) (fun _ => True) (fun a => [.str a.1, encL true encS [] unfNames, .int .i64 5, .int .i64 0]) (fun _ => []) (fun a => a.2)
 (fun a k => cond (unfNames.any (fun w => hpB a.1 w)) (k .ret [.bool true, .str a.1] [] a.2) (k (.exit 0) [.undef, .str a.1] [] a.2))
noncomputable def unfFH : FH := .of [(5, loopSpec 38 [3,16,17,18] [] [2,3] [] unfSp)]
def layUn0 (F : Bs → Bs × Bool × Bool) : Lay := (Lay.nil.addF 113 (prtTold F)).addF 114 numrTold
theorem unf_step (F : Bs → Bs × Bool × Bool) (t : Bs) (n i : Int) (H : Heap) (D : List (FuncId × List AVal)) (k : Kont) : lturn Tryz.prog (layUn0 F) unfFH 85 5 [3,16,17,18] [] [2,3] [] (stL 38 [3,16,17,18] [.str t, encL true encS [] unfNames, .int .i64 n, .int .i64 i] [] [] H D) k = (
 let n0 : Int := (↑(List.length t) : Int);
 let l1 : List UInt8 := unfNames.getD i.toNat [];
 let n2 : Int := (↑l1.length : Int);
 let c3 : Bool := decide (n2 ≥ n0);
  bif decide (i < n) then bif decide (0 ≤ i) && decide (i < 5) then bif decide (n0 ≤ n2) || !c3 then bif bif c3 then List.drop (Int.toNat 0) (List.take n0.toNat l1) == t else false then k AExit.ret (stL 38 [2, 3] [AVal.bool true, AVal.str t] [] [] H D) else k AExit.normal (stL 38 [3, 16, 17, 18] [AVal.str t, AVal.list true 5 fun (i : Nat) => [AVal.str (unfNames.getD i [])], AVal.int .i64 n, AVal.int .i64 (IntKind.i64.wrap (i + 1))] [] [] H D) else none else none else k (AExit.exit 0) (stL 38 [2, 3] [AVal.undef, AVal.str t] [] [] H D)) := by kernel_rfl
noncomputable def layUn (F : Bs → Bs × Bool × Bool) : Lay := (layUn0 F).addL 85 unfFH
theorem unf_fun (F : Bs → Bs × Bool × Bool) (s : Bs) (k : Out → Ans) : iFun Tryz.prog ((layUn F).hd Tryz.prog) (layUn F).fhs 0 85 [.str s] [] k = (
 let n0 : Int := (↑(List.length s) : Int);
 let c1 : Bool := decide (1 ≤ n0);
 let c2 : Bool := decide (n0 ≥ 1);
 let l3 : List UInt8 := List.drop (Int.toNat 1) (List.take n0.toNat s);
  bif c1 || !c2 then bif !bif c2 then List.drop (Int.toNat 0) (List.take (Int.toNat 1) s) == [38] else false then k (Out.ret (AVal.bool false) []) else bif c1 && decide (n0 ≤ n0) then bif tst (True ∧ SubTL [AVal.str l3, AVal.list true 5 fun (i : Nat) => [[AVal.str [97, 109, 112]], [AVal.str [108, 116]], [AVal.str [103, 116]], [AVal.str [113, 117, 111, 116]], [AVal.str [97, 112, 111, 115]]].getD i [], AVal.int .i64 5, AVal.int .i64 0] [AVal.str l3, AVal.list true 5 fun (i : Nat) => [AVal.str (unfNames.getD i [])], AVal.int .i64 5, AVal.int .i64 0] ∧ ([] : List (List AVal)) = [] ∧ ([] : Heap) = []) then bif hpB l3 [97, 109, 112] || (hpB l3 [108, 116] || (hpB l3 [103, 116] || (hpB l3 [113, 117, 111, 116] || (hpB l3 [97, 112, 111, 115] || false)))) then k (Out.ret (AVal.bool true) []) else bif decide (List.length (F l3).fst ≤ 1099511627776) then k (Out.ret (AVal.bool (bif (F l3).snd.snd then numB (F l3).fst (F l3).snd.fst else false)) []) else none else none else none else none) := by kernel_rfl
end Go.Mu
namespace Go.Mu
open Go Go.Proofs
theorem layUn0_ok : (layUn0 prtM).OK Tryz.prog := (Lay.nil_ok.addF prtTold_ok).addF numrTold_ok
noncomputable abbrev unfTurn := lturn Tryz.prog (layUn0 prtM) unfFH 85 5 [3,16,17,18] [] [2,3] []
def unfHit (t : Bs) (i : Nat) : Bool := hpB t (unfNames.getD i [])
theorem unf_rd (t : Bs) (H : Heap) (i : Nat) (hi : i < 5) (D : List (FuncId × List AVal)) (k : Kont) :
 unfTurn (stL 38 [3,16,17,18] [.str t, encL true encS [] unfNames, .int .i64 5, .int .i64 (i : Nat)] [] [] H D) k = cond (unfHit t i) (k .ret (stL 38 [2,3] [.bool true, .str t] [] [] H D)) (k .normal (stL 38 [3,16,17,18] [.str t, encL true encS [] unfNames, .int .i64 5, .int .i64 ((i + 1 : Nat) : Int)] [] [] H D)) := by
 refine (unf_step prtM t 5 i H D k).trans ?_
 have w1 : IntKind.i64.wrap ((i : Int) + 1) = ((i + 1 : Nat) : Int) := wrap_add1 (by omega)
 have g : (decide ((t.length : Int) ≤ ((unfNames.getD i []).length : Int)) || !decide (((unfNames.getD i []).length : Int) ≥ (t.length : Int))) = true := Bool.or_not_self _
 simp only [w1, Int.toNat_natCast, g, dT (show (i : Int) < 5 by omega), dT (show (0 : Int) ≤ (i : Int) by omega), Bool.and_self, cond_true]
 rfl
theorem unfSp_ok : SpOK unfTurn 38 [3,16,17,18] [] [2,3] [] unfSp := mkL_ok fun a _ => by
 obtain ⟨t, H⟩ := a
 show ∃ e vs bs H', (∀ k : AExit → List AVal → List (List AVal) → Heap → Ans, cond (unfNames.any fun w => hpB t w) _ _ = k e vs bs H') ∧ _
 have hN : ∀ D k, unfTurn (stL 38 [3,16,17,18] [.str t, encL true encS [] unfNames, .int .i64 5, .int .i64 (5 : Nat)] [] [] H D) k = k (.exit 0) (stL 38 [2,3] [.undef, .str t] [] [] H D) := fun D k => by
  refine (unf_step prtM t 5 (5 : Nat) H D k).trans ?_
  rw [dF (show ¬ ((5 : Nat) : Int) < 5 by omega), cond_false]
 have key : ∀ j, (List.range 5).find? (unfHit t) = some j → (unfNames.any fun w => hpB t w) = true := fun j hj => by
  obtain ⟨h1, h2, _⟩ := List.find?_range_eq_some.1 hj
  have h2 : j < 5 := by simpa using h2
  refine List.any_eq_true.2 ⟨unfNames.getD j [], ?_, h1⟩
  rw [List.getD_eq_getElem?_getD, List.getElem?_eq_getElem (show j < unfNames.length from h2)]
  exact List.getElem_mem _
 cases ha : (List.range 5).find? (unfHit t) with
 | none =>
  have hb : (unfNames.any fun w => hpB t w) = false := by
   have h := List.find?_eq_none.1 ha
   have h0 := h 0 (by simp)
   have h1 := h 1 (by simp)
   have h2 := h 2 (by simp)
   have h3 := h 3 (by simp)
   have h4 := h 4 (by simp)
   unfold unfHit at h0 h1 h2 h3 h4
   simp only [Bool.not_eq_true] at h0 h1 h2 h3 h4
   have e : (unfNames.any fun w => hpB t w) = (hpB t (unfNames.getD 0 []) || (hpB t (unfNames.getD 1 []) || (hpB t (unfNames.getD 2 []) || (hpB t (unfNames.getD 3 []) || (hpB t (unfNames.getD 4 []) || false))))) := rfl
   rw [e, h0, h1, h2, h3, h4]; rfl
  rw [hb]
  exact ⟨_, _, _, _, fun k => rfl, none_runs (fun i => [.str t, encL true encS [] unfNames, .int .i64 5, .int .i64 (i : Nat)]) [] H (unfHit t) 5 (e1 := .ret) (v1 := fun _ => [.bool true, .str t]) (b1 := fun _ => []) (H1 := fun _ => H) (by simp) (fun i hi D k => unf_rd t H i hi D k) hN ha⟩
 | some j =>
  rw [key j ha]
  exact ⟨_, _, _, _, fun k => rfl, find_runs (fun i => [.str t, encL true encS [] unfNames, .int .i64 5, .int .i64 (i : Nat)]) [] H (unfHit t) 5 (v1 := fun _ => [.bool true, .str t]) (b1 := fun _ => []) (H1 := fun _ => H) (by simp) (fun i hi D k => unf_rd t H i hi D k) ha⟩
theorem layUn_ok : (layUn prtM).OK Tryz.prog := layUn0_ok.loop1 (id := 5) (by kernel_rfl) (by kernel_rfl) (by kernel_rfl) unfSp_ok
def unfM (s : Bs) : Bool := bif !hpB [38] s then false else bif unfNames.any (fun w => hpB (s.drop 1) w) then true else bif (prtM (s.drop 1)).2.2 then numB (prtM (s.drop 1)).1 (prtM (s.drop 1)).2.1 else false
theorem prtM_len (s : Bs) : (prtM s).1.length ≤ s.length := by
 unfold prtM
 cases hpB [35] s
 · exact Nat.le_refl _
 · show (bif _ then ((s.drop 1).drop 1, true, true) else (s.drop 1, false, true) : Bs × Bool × Bool).1.length ≤ _
   cases (bif !s.drop 1 == [] then orx ((s.drop 1).getD 0 0) else false) <;> simp only [cond_true, cond_false, List.length_drop] <;> omega
theorem unf_ok (s : Bs) (hs : s.length ≤ 1048576) : CallOK Tryz.prog 85 [.str s] [] (.ret (.bool (unfM s)) []) := layUn_ok.callF (G := []) rfl (fun k => by
 refine (unf_fun prtM s k).trans ?_
 have e3 : List.drop (Int.toNat 1) (List.take (Int.toNat (s.length : Int)) s) = s.drop 1 := by rw [Int.toNat_natCast, List.take_length]; rfl
 have g : (decide (1 ≤ (s.length : Int)) || !decide ((s.length : Int) ≥ 1)) = true := Bool.or_not_self _
 have hl : decide ((prtM (s.drop 1)).1.length ≤ 1099511627776) = true := dT (by
  have := prtM_len (s.drop 1)
  rw [List.length_drop] at this
  omega)
 simp only [e3, g, hl, cond_true]
 show (bif !hpB [38] s then _ else _) = k (.ret (.bool (bif !hpB [38] s then false else bif unfNames.any (fun w => hpB (s.drop 1) w) then true else bif (prtM (s.drop 1)).2.2 then numB (prtM (s.drop 1)).1 (prtM (s.drop 1)).2.1 else false)) [])
 cases h38 : hpB [38] s with
 | false => rfl
 | true =>
  have hge : (1 : Int) ≤ (s.length : Int) := by
   unfold hpB at h38
   cases hd : decide ((s.length : Int) ≥ (([38] : Bs).length : Int)) with
   | true => exact of_decide_eq_true hd
   | false => rw [hd] at h38; cases h38
  simp only [Bool.not_true, cond_false, dT hge, dT (Int.le_refl (s.length : Int)), Bool.and_self, cond_true]
  refine (congrArg (fun c => cond c _ none) (tst_true ⟨trivial, ?_, by trivial⟩)).trans ((cond_true _ _).trans ?_)
  · show (bif unfNames.any (fun w => hpB (s.drop 1) w) then _ else _) = _
    cases unfNames.any (fun w => hpB (s.drop 1) w) <;> rfl
  · refine SubTL.cons (Sub.t (.refl _) rfl) (SubTL.cons (SubT.list (Sub.list (fun h => h) (fun i hi => ?_))) (.refl _))
    match i, hi with
    | 0, _ => exact .refl _
    | 1, _ => exact .refl _
    | 2, _ => exact .refl _
    | 3, _ => exact .refl _
    | 4, _ => exact .refl _)
def unfTold (U : Bs → Bool) : FSp := mkFS [.s] (fun xs => decide ((aS xs 0).length ≤ 1048576)) (fun xs k => k (.ret (.bool (U (aS xs 0))) []))
theorem unfTold_ok : ∀ xs H k out, unfTold unfM xs H k = some out → ∃ o, CallOK Tryz.prog 85 xs H o ∧ k o = some out := mkFS_ok fun ys xs e hk => by
 obtain ⟨s, rfl⟩ : ∃ s, xs = [.str s] := ⟨_, e⟩
 exact ⟨_, fun k => rfl, unf_ok s (of_decide_eq_true hk)⟩
end Go.Mu
namespace Go.Mu
open Go Go.Proofs
def p0H (H : Heap) : Obj := H.getD 0 (.var [])
def p1H (H : Heap) : Obj := H.getD 1 (.var [])
def cells0H (H : Heap) : List AVal := match H.getD 2 (.var []) with
 | .var x => x
 | _ => []
structure OkM (s : SS) : Prop where
 el : s.el.length ≤ 1000
 ar : s.ar.length ≤ 1000
 pe : s.pe.length ≤ 1000
 rf : s.rf.length ≤ 1000
 pw : PW (s.pt, s.wd)
def OkR (x : List AVal) : Prop := isS x ∧ OkM (decSS x)
theorem OkR_enc {s : SS} (h : OkM s) : OkR (encSS s) := ⟨isS_enc s, by rw [decSS_enc]; exact h⟩
def errV (e : Int) : AVal := .iface 29 (.int .i64 e)
noncomputable def scPost (P0 P1 : Obj) (r : ScR) (k : Out → Ans) : Ans := cond (r.e == 0) (k (.ret (.tuple []) [P0, P1, .var (encSS r.s)])) (k (.panic (errV r.e) [P0, P1, .var (encSS r.s)]))
structure MhA where
 P0 : Obj
 P1 : Obj
 x : List AVal
def mhD (H : Heap) : MhA := ⟨p0H H, p1H H, cells0H H⟩
noncomputable def mxTold (F : List AVal → Bs → ScR) : FSp := mkF (fun xs H => (mhD H, aS xs 1)) (fun a => OkR a.1.x ∧ a.2.length ≤ 1048576) (fun a => [.ptr (.hp 2) 0, .str a.2]) (fun a => [a.1.P0, a.1.P1, .var a.1.x]) (fun a k => scPost a.1.P0 a.1.P1 (F a.1.x a.2) k)
noncomputable def mcTold (ok : List AVal → Prop) (F : List AVal → Int → ScR) : FSp := mkF (fun xs H => (mhD H, aI xs 1)) (fun a => (OkR a.1.x ∧ ok a.1.x) ∧ okc a.2 = true) (fun a => [.ptr (.hp 2) 0, .int .u8 a.2]) (fun a => [a.1.P0, a.1.P1, .var a.1.x]) (fun a k => scPost a.1.P0 a.1.P1 (F a.1.x a.2) k)
noncomputable def m0Told (F : List AVal → ScR) : FSp := mkF (fun xs H => mhD H) (fun a => OkR a.x) (fun a => [.ptr (.hp 2) 0]) (fun a => [a.P0, a.P1, .var a.x]) (fun a k => scPost a.P0 a.P1 (F a.x) k)
noncomputable def lgTold (F : List AVal → Int) : FSp := mkF (fun xs H => mhD H) (fun a => isS a.x) (fun a => [.ptr (.hp 2) 0]) (fun a => [a.P0, a.P1, .var a.x]) (fun a k => k (.ret (.int .i64 (F a.x)) [a.P0, a.P1, .var a.x]))
noncomputable def layLg0 (K : List AVal → Int) : Lay := Lay.nil.addF 29 (ksTold K)
theorem lang_fun (K : List AVal → Int) (s : SS) (P0 P1 : Obj) (k : Out → Ans) : iFun Tryz.prog ((layLg0 K).hd Tryz.prog) (layLg0 K).fhs 0 117 [.ptr (.hp 2) 0] [P0, P1, .var (encSS s)] k = (
 let c0 : Bool := s.k == 9;
 let z0 := [AVal.int .i64 s.k, AVal.str s.el, AVal.str s.ar, AVal.int .u8 (↑s.dl.toNat : Int), AVal.str s.pe, AVal.str s.rf, AVal.int .i64 s.pt, AVal.str s.wd];
 let n1 : Int := K (cellsG (AVal.agg z0));
 let z2 := Out.ret (AVal.int .i64 0) [P0, P1, Obj.var (encSS s)];
 let z1 := bif tst (isS (cellsG (AVal.agg z0)) ∧ SubL [AVal.agg z0] [AVal.agg (cellsG (AVal.agg z0))] ∧ ([] : Heap) = []) then bif decide (n1 ≤ 3) then k (Out.ret (AVal.int .i64 n1) [P0, P1, Obj.var (encSS s)]) else k z2 else none;
  bif s.k == 18 then k (Out.ret (AVal.int .i64 3) [P0, P1, Obj.var (encSS s)]) else bif s.k == 19 then k (Out.ret (AVal.int .i64 2) [P0, P1, Obj.var (encSS s)]) else bif c0 then bif c0 then z1 else k z2 else bif s.k == 10 then z1 else k z2) := by kernel_rfl
noncomputable def laySb0 (G : List AVal → Int) (U J C : FdF) : Lay := (((Lay.nil.addF 117 (lgTold G)).addF 118 (fdTold U)).addF 119 (fdTold J)).addF 120 (fdTold C)
theorem sub_fun (G : List AVal → Int) (U J C : FdF) (s : SS) (x : Bs) (P0 P1 : Obj) (k : Out → Ans) : iFun Tryz.prog ((laySb0 G U J C).hd Tryz.prog) (laySb0 G U J C).fhs 0 84 [.ptr (.hp 2) 0, .str x] [P0, P1, .var (encSS s)] k = (
 let z4 := cells0H [P0, P1, Obj.var (encSS s)];
 let n0 : Int := G z4;
 let c1 : Bool := okpw s.pt s.wd && decide (List.length x ≤ 1099511627776);
 let n2 : Int := (U s.pt s.wd x).fst;
 let n3 : Int := (J s.pt s.wd x).fst;
 let n4 : Int := (C s.pt s.wd x).fst;
 let z0 := [p0H [P0, P1, Obj.var (encSS s)], p1H [P0, P1, Obj.var (encSS s)], Obj.var [AVal.int .i64 s.k, AVal.str s.el, AVal.str s.ar, AVal.int .u8 (↑s.dl.toNat : Int), AVal.str s.pe, AVal.str s.rf, AVal.int .i64 n2, AVal.str (U s.pt s.wd x).snd]];
 let z1 := [p0H [P0, P1, Obj.var (encSS s)], p1H [P0, P1, Obj.var (encSS s)], Obj.var [AVal.int .i64 s.k, AVal.str s.el, AVal.str s.ar, AVal.int .u8 (↑s.dl.toNat : Int), AVal.str s.pe, AVal.str s.rf, AVal.int .i64 n3, AVal.str (J s.pt s.wd x).snd]];
 let z2 := [p0H [P0, P1, Obj.var (encSS s)], p1H [P0, P1, Obj.var (encSS s)], Obj.var [AVal.int .i64 s.k, AVal.str s.el, AVal.str s.ar, AVal.int .u8 (↑s.dl.toNat : Int), AVal.str s.pe, AVal.str s.rf, AVal.int .i64 n4, AVal.str (C s.pt s.wd x).snd]];
 let z3 := [p0H [P0, P1, Obj.var (encSS s)], p1H [P0, P1, Obj.var (encSS s)], Obj.var z4];
  bif tst (isS z4 ∧ SubL [AVal.ptr (Oid.hp 2) 0] [AVal.ptr (Oid.hp 2) 0] ∧ [P0, P1, Obj.var (encSS s)] = z3) then bif n0 == 1 then bif c1 then bif !bif s.pt != 4 then true else n2 != 5 then k (Out.panic (AVal.iface 29 (AVal.int .i64 93)) z0) else k (Out.ret (AVal.tuple []) z0) else none else bif n0 == 2 then bif c1 then bif !n3 != 15 then k (Out.panic (AVal.iface 29 (AVal.int .i64 94)) z1) else k (Out.ret (AVal.tuple []) z1) else none else bif n0 == 3 then bif c1 then bif !n4 != 9 then k (Out.panic (AVal.iface 29 (AVal.int .i64 95)) z2) else k (Out.ret (AVal.tuple []) z2) else none else k (Out.ret (AVal.tuple []) z3) else none) := by kernel_rfl
noncomputable def layFl0 (S : List AVal → Bs → ScR) : Lay := Lay.nil.addF 84 (mxTold S)
theorem flush_funZ (S : List AVal → Bs → ScR) (s : SS) (P0 P1 : Obj) (k : Out → Ans) : iFun Tryz.prog ((layFl0 S).hd Tryz.prog) (layFl0 S).fhs 0 86 [.ptr (.hp 2) 0] [P0, P1, .var (encSS s)] k = (
 let z0 := [P0, P1, Obj.var [AVal.int .i64 s.k, AVal.str s.el, AVal.str s.ar, AVal.int .u8 (↑s.dl.toNat : Int), AVal.str s.pe, AVal.str [], AVal.int .i64 s.pt, AVal.str s.wd]];
 let n0 : Int := (S (cells0H z0) s.rf).e;
 let z1 := [p0H z0, p1H z0, Obj.var (encSS (S (cells0H z0) s.rf).s)];
  bif tst ((OkR (cells0H z0) ∧ List.length s.rf ≤ 1048576) ∧ SubL [AVal.ptr (Oid.hp 2) 0, AVal.str s.rf] [AVal.ptr (Oid.hp 2) 0, AVal.str s.rf] ∧ z0 = [p0H z0, p1H z0, Obj.var (cells0H z0)]) then bif n0 == 0 then k (Out.ret (AVal.tuple []) z1) else k (Out.panic (errV n0) z1) else none) := by kernel_rfl
end Go.Mu
namespace Go.Mu
open Go Go.Proofs
noncomputable def scOut (P0 P1 : Obj) (r : ScR) : Out := bif r.e == 0 then .ret (.tuple []) [P0, P1, .var (encSS r.s)] else .panic (errV r.e) [P0, P1, .var (encSS r.s)]
theorem scPost_eq (P0 P1 : Obj) (r : ScR) (k : Out → Ans) : scPost P0 P1 r k = k (scOut P0 P1 r) := by
 unfold scPost scOut
 cases r.e == 0 <;> rfl
theorem isS_get {x : List AVal} (h : isS x) : ∃ s, x = encSS s := ⟨_, h⟩
theorem mxTold_ok {f : FuncId} {F : SS → Bs → ScR} (h : ∀ P0 P1 s x, OkM s → x.length ≤ 1048576 → CallOK Tryz.prog f [.ptr (.hp 2) 0, .str x] [P0, P1, .var (encSS s)] (scOut P0 P1 (F s x))) : ∀ xs H k out, mxTold (fun x t => F (decSS x) t) xs H k = some out → ∃ o, CallOK Tryz.prog f xs H o ∧ k o = some out := mkF_ok fun a ha => by
 obtain ⟨⟨P0, P1, x⟩, t⟩ := a
 obtain ⟨⟨h1, h2⟩, h3⟩ := ha
 simp only at h1 h2 h3
 obtain ⟨s, rfl⟩ := isS_get h1
 rw [decSS_enc] at h2
 refine ⟨_, fun k => scPost_eq _ _ _ k, ?_⟩
 show CallOK _ _ _ _ (scOut P0 P1 (F (decSS (encSS s)) t))
 rw [decSS_enc]
 exact h P0 P1 s t h2 h3
theorem mcTold_ok {f : FuncId} {ok : SS → Prop} {F : SS → UInt8 → ScR} (h : ∀ P0 P1 s c, OkM s → ok s → CallOK Tryz.prog f [.ptr (.hp 2) 0, .int .u8 c.toNat] [P0, P1, .var (encSS s)] (scOut P0 P1 (F s c))) : ∀ xs H k out, mcTold (fun x => ok (decSS x)) (fun x n => F (decSS x) (u8 n)) xs H k = some out → ∃ o, CallOK Tryz.prog f xs H o ∧ k o = some out := mkF_ok fun a ha => by
 obtain ⟨⟨P0, P1, x⟩, n⟩ := a
 obtain ⟨⟨⟨h1, h2⟩, h4⟩, h3⟩ := ha
 simp only at h1 h2 h3 h4
 obtain ⟨s, rfl⟩ := isS_get h1
 obtain ⟨c, rfl⟩ := okc_is h3
 rw [decSS_enc] at h2 h4
 refine ⟨_, fun k => scPost_eq _ _ _ k, ?_⟩
 show CallOK _ _ _ _ (scOut P0 P1 (F (decSS (encSS s)) (u8 c.toNat)))
 rw [decSS_enc, u8_back]
 exact h P0 P1 s c h2 h4
theorem m0Told_ok {f : FuncId} {F : SS → ScR} (h : ∀ P0 P1 s, OkM s → CallOK Tryz.prog f [.ptr (.hp 2) 0] [P0, P1, .var (encSS s)] (scOut P0 P1 (F s))) : ∀ xs H k out, m0Told (fun x => F (decSS x)) xs H k = some out → ∃ o, CallOK Tryz.prog f xs H o ∧ k o = some out := mkF_ok fun a hx => by
 obtain ⟨P0, P1, x⟩ := a
 obtain ⟨h1, h2⟩ := hx
 simp only at h1 h2
 obtain ⟨s, rfl⟩ := isS_get h1
 rw [decSS_enc] at h2
 refine ⟨_, fun k => scPost_eq _ _ _ k, ?_⟩
 show CallOK _ _ _ _ (scOut P0 P1 (F (decSS (encSS s))))
 rw [decSS_enc]
 exact h P0 P1 s h2
variable (P0 P1 : Obj)
theorem layLg0_ok : (layLg0 kindR).OK Tryz.prog := Lay.nil_ok.addF kindTold_ok
theorem lang_ok (s : SS) : CallOK Tryz.prog 117 [.ptr (.hp 2) 0] [P0, P1, .var (encSS s)] (.ret (.int .i64 (langM s)) [P0, P1, .var (encSS s)]) := layLg0_ok.call (fun k => by
 refine (lang_fun kindR s P0 P1 k).trans ?_
 have e1 := tstS s (xs := [.agg (encSS s)])
 have e2 : kindR (cellsG (.agg (encSS s))) = kindM s := kindR_enc s
 have e3 : encSS s = [.int .i64 s.k, .str s.el, .str s.ar, .int .u8 s.dl.toNat, .str s.pe, .str s.rf, .int .i64 s.pt, .str s.wd] := rfl
 unfold cellsG at e2 ⊢
 simp only at e2 ⊢
 simp only [← e3, e1, e2, cond_true]
 unfold langM
 cases s.k == 18 <;> cases s.k == 19 <;> cases s.k == 9 <;> cases s.k == 10 <;> cases decide (kindM s ≤ 3) <;> rfl)
noncomputable def langR (x : List AVal) : Int := langM (decSS x)
theorem langR_enc (s : SS) : langR (encSS s) = langM s := by unfold langR; rw [decSS_enc]
theorem lgTold_ok : ∀ xs H k out, lgTold langR xs H k = some out → ∃ o, CallOK Tryz.prog 117 xs H o ∧ k o = some out := mkF_ok fun a hx => by
 obtain ⟨P0, P1, x⟩ := a
 have hx : isS x := hx
 obtain ⟨s, rfl⟩ := isS_get hx
 refine ⟨_, fun k => rfl, ?_⟩
 show CallOK _ _ _ _ (.ret (.int .i64 (langR (encSS s))) [P0, P1, .var (encSS s)])
 rw [langR_enc]
 exact lang_ok P0 P1 s
theorem laySb0_ok : (laySb0 langR (feedP urlStep) (feedP jsStep) (feedP csStep)).OK Tryz.prog := (((Lay.nil_ok.addF lgTold_ok).addF fduTold_ok).addF fdjTold_ok).addF fdcTold_ok
theorem msub_ok (s : SS) (x : Bs) (h : OkM s) (hx : x.length ≤ 1048576) : CallOK Tryz.prog 84 [.ptr (.hp 2) 0, .str x] [P0, P1, .var (encSS s)] (scOut P0 P1 (subS s x)) := laySb0_ok.call (fun k => by
 refine (sub_fun langR (feedP urlStep) (feedP jsStep) (feedP csStep) s x P0 P1 k).trans ?_
 have e0 : langR (cells0H [P0, P1, Obj.var (encSS s)]) = langM s := langR_enc s
 have g : (okpw s.pt s.wd && decide (x.length ≤ 1099511627776)) = true := by rw [okpw_of h.pw, dT (by omega)]; rfl
 refine (congrArg (fun c => cond c _ none) (tst_true ⟨isS_enc s, .refl _, rfl⟩)).trans ((cond_true _ _).trans ?_)
 unfold subS
 simp only [e0, g, cond_true]
 cases langM s == 1 with
 | true =>
  show (bif !(bif s.pt != 4 then true else (feedP urlStep s.pt s.wd x).1 != 5) then _ else _) = _
  rw [bif_or]
  show _ = k (scOut P0 P1 ⟨bif s.pt != 4 || (feedP urlStep s.pt s.wd x).1 != 5 then 0 else 93, _⟩)
  cases (s.pt != 4 || (feedP urlStep s.pt s.wd x).1 != 5) <;> rfl
 | false =>
  cases langM s == 2 with
  | true =>
   show (bif !((feedP jsStep s.pt s.wd x).1 != 15) then _ else _) = k (scOut P0 P1 ⟨bif (feedP jsStep s.pt s.wd x).1 != 15 then 0 else 94, _⟩)
   cases (feedP jsStep s.pt s.wd x).1 != 15 <;> rfl
  | false =>
   cases langM s == 3 with
   | true =>
    show (bif !((feedP csStep s.pt s.wd x).1 != 9) then _ else _) = k (scOut P0 P1 ⟨bif (feedP csStep s.pt s.wd x).1 != 9 then 0 else 95, _⟩)
    cases (feedP csStep s.pt s.wd x).1 != 9 <;> rfl
   | false => rfl)
noncomputable def subX : List AVal → Bs → ScR := fun x t => subS (decSS x) t
theorem subX_enc (s : SS) (t : Bs) : subX (encSS s) t = subS s t := by unfold subX; rw [decSS_enc]
theorem mxSub_ok : ∀ xs H k out, mxTold subX xs H k = some out → ∃ o, CallOK Tryz.prog 84 xs H o ∧ k o = some out := mxTold_ok msub_ok
theorem layFl0_ok : (layFl0 subX).OK Tryz.prog := Lay.nil_ok.addF mxSub_ok
theorem OkM.rf0 {s : SS} (h : OkM s) {t : Bs} (ht : t.length ≤ 1000) : OkM { s with rf := t } := ⟨h.el, h.ar, h.pe, ht, h.pw⟩
theorem mflush_ok (s : SS) (h : OkM s) : CallOK Tryz.prog 86 [.ptr (.hp 2) 0] [P0, P1, .var (encSS s)] (scOut P0 P1 (flushS s)) := layFl0_ok.call (fun k => by
 refine (flush_funZ subX s P0 P1 k).trans ?_
 have e : subX (cells0H [P0, P1, Obj.var (encSS { s with rf := [] })]) s.rf = flushS s := subX_enc { s with rf := [] } s.rf
 have hr := h.rf
 refine (congrArg (fun c => cond c _ none) (tst_true ⟨⟨OkR_enc (h.rf0 (t := []) (by simp)), by omega⟩, .refl _, rfl⟩)).trans ((cond_true _ _).trans ?_)
 refine Eq.trans ?_ (scPost_eq P0 P1 (flushS s) k)
 rw [← e]
 rfl)
noncomputable def flushX : List AVal → ScR := fun x => flushS (decSS x)
theorem flushX_enc (s : SS) : flushX (encSS s) = flushS s := by unfold flushX; rw [decSS_enc]
theorem m0Flush_ok : ∀ xs H k out, m0Told flushX xs H k = some out → ∃ o, CallOK Tryz.prog 86 xs H o ∧ k o = some out := m0Told_ok mflush_ok
end Go.Mu
namespace Go.Mu
open Go Go.Proofs
abbrev FC := List AVal → Int → ScR
abbrev FX := List AVal → Bs → ScR
abbrev F0 := List AVal → ScR
abbrev okT : List AVal → Prop := fun _ => True
noncomputable def layCh (S : FX) (L : F0) (U : Bs → Bool) : Lay := (((Lay.nil.addF 84 (mxTold S)).addF 86 (m0Told L)).addF 83 onePTold).addF 85 (unfTold U)
theorem smchar_fun (S : FX) (L : F0) (U : Bs → Bool) (s : SS) (c : UInt8) (P0 P1 : Obj) (k : Out → Ans) : iFun Tryz.prog ((layCh S L U).hd Tryz.prog) (layCh S L U).fhs 0 49 [.ptr (.hp 2) 0, .int .u8 c.toNat] [P0, P1, .var (encSS s)] k = (
 let n0 : Int := (↑c.toNat : Int);
 let l1 : List UInt8 := [byteOf [AVal.int .u8 n0]];
 let l2 : List UInt8 := List.append s.rf l1;
 let m3 : Nat := l2.length;
 let l4 : List UInt8 := (oneP l2).fst;
 let z0 := [P0, P1, Obj.var [AVal.int .i64 s.k, AVal.str s.el, AVal.str s.ar, AVal.int .u8 (↑s.dl.toNat : Int), AVal.str s.pe, AVal.str [], AVal.int .i64 s.pt, AVal.str s.wd]];
 let n5 : Int := (S (cells0H z0) l4).e;
 let z2 := cells0H [P0, P1, Obj.var (encSS s)];
 let n6 : Int := (L z2).e;
 let c7 : Bool := n0 == 38;
 let z1 := [p0H [P0, P1, Obj.var (encSS s)], p1H [P0, P1, Obj.var (encSS s)], Obj.var (encSS (L z2).s)];
 let n8 : Int := (S (cells0H z1) l1).e;
 let n9 : Int := (S z2 l1).e;
 let z3 := [AVal.ptr (Oid.hp 2) 0, AVal.str l1];
 let z4 := [p0H [P0, P1, Obj.var (encSS s)], p1H [P0, P1, Obj.var (encSS s)], Obj.var (encSS (S z2 l1).s)];
 let z5 := [p0H [P0, P1, Obj.var (encSS s)], p1H [P0, P1, Obj.var (encSS s)], Obj.var z2];
 let z6 := [p0H z0, p1H z0, Obj.var (encSS (S (cells0H z0) l4).s)];
 let z7 := [p0H z1, p1H z1, Obj.var (encSS (S (cells0H z1) l1).s)];
  bif !s.rf == [] then bif decide (List.length s.rf + 1 ≤ 4611686018427387904) then bif decide (m3 ≤ 1099511627776) then bif (↑(oneP l2).snd : Int) == (↑m3 : Int) then bif tst ((OkR (cells0H z0) ∧ l4.length ≤ 1048576) ∧ SubL [AVal.ptr (Oid.hp 2) 0, AVal.str l4] [AVal.ptr (Oid.hp 2) 0, AVal.str l4] ∧ z0 = [p0H z0, p1H z0, Obj.var (cells0H z0)]) then bif n5 == 0 then k (Out.ret (AVal.tuple []) z6) else k (Out.panic (errV n5) z6) else none else bif decide (m3 ≤ 1048576) then bif U l2 then k (Out.ret (AVal.tuple []) [P0, P1, Obj.var [AVal.int .i64 s.k, AVal.str s.el, AVal.str s.ar, AVal.int .u8 (↑s.dl.toNat : Int), AVal.str s.pe, AVal.str l2, AVal.int .i64 s.pt, AVal.str s.wd]]) else bif tst (OkR z2 ∧ SubL [AVal.ptr (Oid.hp 2) 0] [AVal.ptr (Oid.hp 2) 0] ∧ [P0, P1, Obj.var (encSS s)] = z5) then bif n6 == 0 then bif c7 then k (Out.ret (AVal.tuple []) [p0H [P0, P1, Obj.var (encSS s)], p1H [P0, P1, Obj.var (encSS s)], Obj.var [AVal.int .i64 (L z2).s.k, AVal.str (L z2).s.el, AVal.str (L z2).s.ar, AVal.int .u8 (↑(L z2).s.dl.toNat : Int), AVal.str (L z2).s.pe, AVal.str [38], AVal.int .i64 (L z2).s.pt, AVal.str (L z2).s.wd]]) else bif tst ((OkR (cells0H z1) ∧ 1 ≤ 1048576) ∧ SubL z3 z3 ∧ z1 = [p0H z1, p1H z1, Obj.var (cells0H z1)]) then bif n8 == 0 then k (Out.ret (AVal.tuple []) z7) else k (Out.panic (errV n8) z7) else none else k (Out.panic (errV n6) z1) else none else none else none else none else bif c7 then k (Out.ret (AVal.tuple []) [P0, P1, Obj.var [AVal.int .i64 s.k, AVal.str s.el, AVal.str s.ar, AVal.int .u8 (↑s.dl.toNat : Int), AVal.str s.pe, AVal.str [38], AVal.int .i64 s.pt, AVal.str s.wd]]) else bif tst ((OkR z2 ∧ 1 ≤ 1048576) ∧ SubL z3 z3 ∧ [P0, P1, Obj.var (encSS s)] = z5) then bif n9 == 0 then k (Out.ret (AVal.tuple []) z4) else k (Out.panic (errV n9) z4) else none) := by kernel_rfl
noncomputable def layE0 : Lay := Lay.nil.addF 122 elmTold
theorem smend_fun (s : SS) (P0 P1 : Obj) (k : Out → Ans) : iFun Tryz.prog (layE0.hd Tryz.prog) layE0.fhs 0 91 [.ptr (.hp 2) 0] [P0, P1, .var (encSS s)] k = (
 bif !decide (elmK s.el ≤ 3) then k (Out.panic (AVal.iface 29 (AVal.int .i64 91)) [P0, P1, Obj.var (encSS s)]) else bif elmK s.el == 0 then k (Out.ret (AVal.tuple []) [P0, P1, Obj.var [AVal.int .i64 0, AVal.str [], AVal.str [], AVal.int .u8 0, AVal.str [], AVal.str [], AVal.int .i64 0, AVal.str []]]) else k (Out.ret (AVal.tuple []) [P0, P1, Obj.var [AVal.int .i64 (IntKind.i64.wrap (IntKind.i64.wrap (17 + elmK s.el) - 1)), AVal.str s.el, AVal.str [], AVal.int .u8 0, AVal.str [], AVal.str [], AVal.int .i64 0, AVal.str []]])) := by kernel_rfl
noncomputable def layW0Z (B : Int → Bool) (E : F0) : Lay := ((Lay.nil.addF 89 (c8Told B)).addF 108 lowTold).addF 91 (m0Told E)
theorem smwithin_fun (B : Int → Bool) (E : F0) (s : SS) (c : UInt8) (P0 P1 : Obj) (k : Out → Ans) : iFun Tryz.prog ((layW0Z B E).hd Tryz.prog) (layW0Z B E).fhs 0 53 [.ptr (.hp 2) 0, .int .u8 c.toNat] [P0, P1, .var (encSS s)] k = (
 let n0 : Int := (↑c.toNat : Int);
 let z0 := cells0H [P0, P1, Obj.var (encSS s)];
 let n1 : Int := (E z0).e;
 let z1 := [p0H [P0, P1, Obj.var (encSS s)], p1H [P0, P1, Obj.var (encSS s)], Obj.var (encSS (E z0).s)];
  bif okc n0 then bif B n0 then k (Out.ret (AVal.tuple []) [P0, P1, Obj.var [AVal.int .i64 5, AVal.str s.el, AVal.str [], AVal.int .u8 0, AVal.str [], AVal.str [], AVal.int .i64 0, AVal.str []]]) else bif n0 == 47 then k (Out.ret (AVal.tuple []) [P0, P1, Obj.var [AVal.int .i64 12, AVal.str s.el, AVal.str [], AVal.int .u8 0, AVal.str [], AVal.str [], AVal.int .i64 0, AVal.str []]]) else bif n0 == 62 then bif tst (OkR z0 ∧ SubL [AVal.ptr (Oid.hp 2) 0] [AVal.ptr (Oid.hp 2) 0] ∧ [P0, P1, Obj.var (encSS s)] = [p0H [P0, P1, Obj.var (encSS s)], p1H [P0, P1, Obj.var (encSS s)], Obj.var z0]) then bif n1 == 0 then k (Out.ret (AVal.tuple []) z1) else k (Out.panic (errV n1) z1) else none else k (Out.ret (AVal.tuple []) [P0, P1, Obj.var [AVal.int .i64 6, AVal.str s.el, AVal.str [lowC (byteOf [AVal.int .u8 n0])], AVal.int .u8 0, AVal.str [], AVal.str [], AVal.int .i64 0, AVal.str []]]) else none) := by kernel_rfl
noncomputable def layT0 (B : Int → Bool) (W : FC) : Lay := ((Lay.nil.addF 89 (c8Told B)).addF 108 lowTold).addF 53 (mcTold okT W)
theorem smtag_fun (B : Int → Bool) (W : FC) (s : SS) (c : UInt8) (P0 P1 : Obj) (k : Out → Ans) : iFun Tryz.prog ((layT0 B W).hd Tryz.prog) (layT0 B W).fhs 0 52 [.ptr (.hp 2) 0, .int .u8 c.toNat] [P0, P1, .var (encSS s)] k = (
 let n0 : Int := (↑c.toNat : Int);
 let c1 : Bool := okc n0;
 let z1 := cells0H [P0, P1, Obj.var (encSS s)];
 let n2 : Int := (W z1 n0).e;
 let n3 : Int := (↑(List.length s.el) : Int);
 let z0 := bif decide (List.length s.el + 1 ≤ 4611686018427387904) then k (Out.ret (AVal.tuple []) [P0, P1, Obj.var [AVal.int .i64 s.k, AVal.str (List.append s.el (lowM [byteOf [AVal.int .u8 n0]])), AVal.str s.ar, AVal.int .u8 (↑s.dl.toNat : Int), AVal.str s.pe, AVal.str s.rf, AVal.int .i64 s.pt, AVal.str s.wd]]) else none;
 let z2 := [p0H [P0, P1, Obj.var (encSS s)], p1H [P0, P1, Obj.var (encSS s)], Obj.var (encSS (W z1 n0).s)];
 let z3 := Out.panic (AVal.iface 29 (AVal.int .i64 5)) [P0, P1, Obj.var (encSS s)];
 let z4 := [AVal.ptr (Oid.hp 2) 0, AVal.int .u8 n0];
  bif c1 then bif bif bif B n0 then true else n0 == 47 then true else n0 == 62 then bif tst (((OkR z1 ∧ okT z1) ∧ c1 = true) ∧ SubL z4 z4 ∧ [P0, P1, Obj.var (encSS s)] = [p0H [P0, P1, Obj.var (encSS s)], p1H [P0, P1, Obj.var (encSS s)], Obj.var z1]) then bif n2 == 0 then k (Out.ret (AVal.tuple []) z2) else k (Out.panic (errV n2) z2) else none else bif s.k == 4 then bif !decide (n3 < 33) then k z3 else z0 else bif !decide (n3 < 32) then k z3 else z0 else none) := by kernel_rfl
theorem smattr_fun (B : Int → Bool) (W : FC) (s : SS) (c : UInt8) (P0 P1 : Obj) (k : Out → Ans) : iFun Tryz.prog ((layT0 B W).hd Tryz.prog) (layT0 B W).fhs 0 54 [.ptr (.hp 2) 0, .int .u8 c.toNat] [P0, P1, .var (encSS s)] k = (
 let n0 : Int := (↑c.toNat : Int);
 let c1 : Bool := okc n0;
 let z0 := cells0H [P0, P1, Obj.var (encSS s)];
 let n2 : Int := (W z0 n0).e;
 let z1 := [p0H [P0, P1, Obj.var (encSS s)], p1H [P0, P1, Obj.var (encSS s)], Obj.var (encSS (W z0 n0).s)];
 let z2 := [AVal.ptr (Oid.hp 2) 0, AVal.int .u8 n0];
  bif c1 then bif B n0 then k (Out.ret (AVal.tuple []) [P0, P1, Obj.var [AVal.int .i64 7, AVal.str s.el, AVal.str s.ar, AVal.int .u8 (↑s.dl.toNat : Int), AVal.str s.pe, AVal.str s.rf, AVal.int .i64 s.pt, AVal.str s.wd]]) else bif n0 == 61 then k (Out.ret (AVal.tuple []) [P0, P1, Obj.var [AVal.int .i64 8, AVal.str s.el, AVal.str s.ar, AVal.int .u8 (↑s.dl.toNat : Int), AVal.str s.pe, AVal.str s.rf, AVal.int .i64 s.pt, AVal.str s.wd]]) else bif bif bif n0 == 47 then true else n0 == 62 then true else s.k == 7 then bif tst (((OkR z0 ∧ okT z0) ∧ c1 = true) ∧ SubL z2 z2 ∧ [P0, P1, Obj.var (encSS s)] = [p0H [P0, P1, Obj.var (encSS s)], p1H [P0, P1, Obj.var (encSS s)], Obj.var z0]) then bif n2 == 0 then k (Out.ret (AVal.tuple []) z1) else k (Out.panic (errV n2) z1) else none else bif !decide ((↑(List.length s.ar) : Int) < 32) then k (Out.panic (AVal.iface 29 (AVal.int .i64 5)) [P0, P1, Obj.var (encSS s)]) else bif decide (List.length s.ar + 1 ≤ 4611686018427387904) then k (Out.ret (AVal.tuple []) [P0, P1, Obj.var [AVal.int .i64 s.k, AVal.str s.el, AVal.str (List.append s.ar (lowM [byteOf [AVal.int .u8 n0]])), AVal.int .u8 (↑s.dl.toNat : Int), AVal.str s.pe, AVal.str s.rf, AVal.int .i64 s.pt, AVal.str s.wd]]) else none else none) := by kernel_rfl
noncomputable def layA0 (B : Int → Bool) (E : F0) (C : FC) : Lay := ((Lay.nil.addF 89 (c8Told B)).addF 91 (m0Told E)).addF 49 (mcTold okT C)
theorem smwant_fun (B : Int → Bool) (E : F0) (C : FC) (s : SS) (c : UInt8) (P0 P1 : Obj) (k : Out → Ans) : iFun Tryz.prog ((layA0 B E C).hd Tryz.prog) (layA0 B E C).fhs 0 55 [.ptr (.hp 2) 0, .int .u8 c.toNat] [P0, P1, .var (encSS s)] k = (
 let n0 : Int := (↑c.toNat : Int);
 let c1 : Bool := okc n0;
 let z1 := cells0H [P0, P1, Obj.var (encSS s)];
 let n2 : Int := (E z1).e;
 let z0 := [P0, P1, Obj.var [AVal.int .i64 10, AVal.str s.el, AVal.str s.ar, AVal.int .u8 (↑s.dl.toNat : Int), AVal.str s.pe, AVal.str s.rf, AVal.int .i64 s.pt, AVal.str s.wd]];
 let n3 : Int := (C (cells0H z0) n0).e;
 let z2 := [p0H [P0, P1, Obj.var (encSS s)], p1H [P0, P1, Obj.var (encSS s)], Obj.var (encSS (E z1).s)];
 let z3 := [p0H z0, p1H z0, Obj.var (encSS (C (cells0H z0) n0).s)];
 let z4 := [AVal.ptr (Oid.hp 2) 0, AVal.int .u8 n0];
  bif c1 then bif B n0 then k (Out.ret (AVal.tuple []) [P0, P1, Obj.var (encSS s)]) else bif bif n0 == 34 then true else n0 == 39 then k (Out.ret (AVal.tuple []) [P0, P1, Obj.var [AVal.int .i64 9, AVal.str s.el, AVal.str s.ar, AVal.int .u8 n0, AVal.str s.pe, AVal.str s.rf, AVal.int .i64 s.pt, AVal.str s.wd]]) else bif n0 == 62 then bif tst (OkR z1 ∧ SubL [AVal.ptr (Oid.hp 2) 0] [AVal.ptr (Oid.hp 2) 0] ∧ [P0, P1, Obj.var (encSS s)] = [p0H [P0, P1, Obj.var (encSS s)], p1H [P0, P1, Obj.var (encSS s)], Obj.var z1]) then bif n2 == 0 then k (Out.ret (AVal.tuple []) z2) else k (Out.panic (errV n2) z2) else none else bif tst (((OkR (cells0H z0) ∧ okT (cells0H z0)) ∧ c1 = true) ∧ SubL z4 z4 ∧ z0 = [p0H z0, p1H z0, Obj.var (cells0H z0)]) then bif n3 == 0 then k (Out.ret (AVal.tuple []) z3) else k (Out.panic (errV n3) z3) else none else none) := by kernel_rfl
noncomputable def layV0 (B : Int → Bool) (L : F0) (W C : FC) : Lay := (((Lay.nil.addF 89 (c8Told B)).addF 86 (m0Told L)).addF 49 (mcTold okT C)).addF 53 (mcTold okT W)
theorem smval_fun (B : Int → Bool) (L : F0) (W C : FC) (s : SS) (c : UInt8) (P0 P1 : Obj) (k : Out → Ans) : iFun Tryz.prog ((layV0 B L W C).hd Tryz.prog) (layV0 B L W C).fhs 0 56 [.ptr (.hp 2) 0, .int .u8 c.toNat] [P0, P1, .var (encSS s)] k = (
 let n0 : Int := (↑c.toNat : Int);
 let z1 := cells0H [P0, P1, Obj.var (encSS s)];
 let z4 := [p0H [P0, P1, Obj.var (encSS s)], p1H [P0, P1, Obj.var (encSS s)], Obj.var z1];
 let c1 : Bool := tst (OkR z1 ∧ SubL [AVal.ptr (Oid.hp 2) 0] [AVal.ptr (Oid.hp 2) 0] ∧ [P0, P1, Obj.var (encSS s)] = z4);
 let n2 : Int := (L z1).e;
 let c3 : Bool := n2 == 0;
 let c4 : Bool := okc n0;
 let z0 := [p0H [P0, P1, Obj.var (encSS s)], p1H [P0, P1, Obj.var (encSS s)], Obj.var (encSS (L z1).s)];
 let n5 : Int := (W (cells0H z0) n0).e;
 let n6 : Int := (C z1 n0).e;
 let z2 := [AVal.ptr (Oid.hp 2) 0, AVal.int .u8 n0];
 let z3 := [p0H [P0, P1, Obj.var (encSS s)], p1H [P0, P1, Obj.var (encSS s)], Obj.var (encSS (C z1 n0).s)];
 let z5 := [p0H z0, p1H z0, Obj.var (encSS (W (cells0H z0) n0).s)];
  bif bif s.k == 9 then n0 == (↑s.dl.toNat : Int) else false then bif c1 then bif c3 then k (Out.ret (AVal.tuple []) [p0H [P0, P1, Obj.var (encSS s)], p1H [P0, P1, Obj.var (encSS s)], Obj.var [AVal.int .i64 11, AVal.str (L z1).s.el, AVal.str [], AVal.int .u8 0, AVal.str [], AVal.str [], AVal.int .i64 0, AVal.str []]]) else k (Out.panic (errV n2) z0) else none else bif c4 then bif bif s.k == 10 then bif B n0 then true else n0 == 62 else false then bif c1 then bif c3 then bif tst (((OkR (cells0H z0) ∧ okT (cells0H z0)) ∧ c4 = true) ∧ SubL z2 z2 ∧ z0 = [p0H z0, p1H z0, Obj.var (cells0H z0)]) then bif n5 == 0 then k (Out.ret (AVal.tuple []) z5) else k (Out.panic (errV n5) z5) else none else k (Out.panic (errV n2) z0) else none else bif tst (((OkR z1 ∧ okT z1) ∧ c4 = true) ∧ SubL z2 z2 ∧ [P0, P1, Obj.var (encSS s)] = z4) then bif n6 == 0 then k (Out.ret (AVal.tuple []) z3) else k (Out.panic (errV n6) z3) else none else none) := by kernel_rfl
noncomputable def layB0 (L : Int → Bool) (ok : List AVal → Prop) (S : FC) : Lay := ((Lay.nil.addF 87 (c8Told L)).addF 108 lowTold).addF 27 (mcTold ok S)
theorem smbegin_fun (L : Int → Bool) (ok : List AVal → Prop) (S : FC) (s : SS) (c : UInt8) (P0 P1 : Obj) (k : Out → Ans) : iFun Tryz.prog ((layB0 L ok S).hd Tryz.prog) (layB0 L ok S).fhs 0 50 [.ptr (.hp 2) 0, .int .u8 c.toNat] [P0, P1, .var (encSS s)] k = (
 let n0 : Int := (↑c.toNat : Int);
 let c1 : Bool := okc n0;
 let z0 := [P0, P1, Obj.var [AVal.int .i64 0, AVal.str [], AVal.str [], AVal.int .u8 0, AVal.str [], AVal.str [], AVal.int .i64 0, AVal.str []]];
 let n2 : Int := (S (cells0H z0) n0).e;
 let z1 := [p0H z0, p1H z0, Obj.var (encSS (S (cells0H z0) n0).s)];
 let z2 := [AVal.ptr (Oid.hp 2) 0, AVal.int .u8 n0];
  bif c1 then bif L n0 then k (Out.ret (AVal.tuple []) [P0, P1, Obj.var [AVal.int .i64 3, AVal.str [lowC (byteOf [AVal.int .u8 n0])], AVal.str [], AVal.int .u8 0, AVal.str [], AVal.str [], AVal.int .i64 0, AVal.str []]]) else bif n0 == 47 then k (Out.ret (AVal.tuple []) [P0, P1, Obj.var [AVal.int .i64 2, AVal.str [], AVal.str [], AVal.int .u8 0, AVal.str [], AVal.str [], AVal.int .i64 0, AVal.str []]]) else bif n0 == 33 then k (Out.ret (AVal.tuple []) [P0, P1, Obj.var [AVal.int .i64 13, AVal.str [], AVal.str [], AVal.int .u8 0, AVal.str [], AVal.str [], AVal.int .i64 0, AVal.str []]]) else bif n0 == 63 then k (Out.ret (AVal.tuple []) [P0, P1, Obj.var [AVal.int .i64 15, AVal.str [], AVal.str [], AVal.int .u8 0, AVal.str [], AVal.str [], AVal.int .i64 0, AVal.str []]]) else bif tst (((OkR (cells0H z0) ∧ ok (cells0H z0)) ∧ c1 = true) ∧ SubL z2 z2 ∧ z0 = [p0H z0, p1H z0, Obj.var (cells0H z0)]) then bif n2 == 0 then k (Out.ret (AVal.tuple []) z1) else k (Out.panic (errV n2) z1) else none else none) := by kernel_rfl
theorem smbeginE_fun (L : Int → Bool) (ok : List AVal → Prop) (S : FC) (s : SS) (c : UInt8) (P0 P1 : Obj) (k : Out → Ans) : iFun Tryz.prog ((layB0 L ok S).hd Tryz.prog) (layB0 L ok S).fhs 0 51 [.ptr (.hp 2) 0, .int .u8 c.toNat] [P0, P1, .var (encSS s)] k = (
 let n0 : Int := (↑c.toNat : Int);
  bif okc n0 then bif L n0 then k (Out.ret (AVal.tuple []) [P0, P1, Obj.var [AVal.int .i64 4, AVal.str [47, lowC (byteOf [AVal.int .u8 n0])], AVal.str [], AVal.int .u8 0, AVal.str [], AVal.str [], AVal.int .i64 0, AVal.str []]]) else bif n0 == 62 then k (Out.ret (AVal.tuple []) [P0, P1, Obj.var [AVal.int .i64 0, AVal.str [], AVal.str [], AVal.int .u8 0, AVal.str [], AVal.str [], AVal.int .i64 0, AVal.str []]]) else k (Out.ret (AVal.tuple []) [P0, P1, Obj.var [AVal.int .i64 15, AVal.str [], AVal.str [], AVal.int .u8 0, AVal.str [], AVal.str [], AVal.int .i64 0, AVal.str []]]) else none) := by kernel_rfl
theorem smrem_fun (L : Int → Bool) (ok : List AVal → Prop) (S : FC) (s : SS) (c : UInt8) (P0 P1 : Obj) (k : Out → Ans) : iFun Tryz.prog ((layB0 L ok S).hd Tryz.prog) (layB0 L ok S).fhs 0 57 [.ptr (.hp 2) 0, .int .u8 c.toNat] [P0, P1, .var (encSS s)] k = (
 let n0 : Int := (↑c.toNat : Int);
 let c1 : Bool := n0 == 45;
 let z0 := [P0, P1, Obj.var [AVal.int .i64 15, AVal.str s.el, AVal.str s.ar, AVal.int .u8 (↑s.dl.toNat : Int), AVal.str s.pe, AVal.str s.rf, AVal.int .i64 s.pt, AVal.str s.wd]];
 let n2 : Int := (S (cells0H z0) n0).e;
 let c3 : Bool := s.pe == [45, 45];
 let z1 := [p0H z0, p1H z0, Obj.var (encSS (S (cells0H z0) n0).s)];
 let z2 := [AVal.ptr (Oid.hp 2) 0, AVal.int .u8 n0];
  bif bif s.k == 13 then c1 else false then k (Out.ret (AVal.tuple []) [P0, P1, Obj.var [AVal.int .i64 14, AVal.str s.el, AVal.str s.ar, AVal.int .u8 (↑s.dl.toNat : Int), AVal.str s.pe, AVal.str s.rf, AVal.int .i64 s.pt, AVal.str s.wd]]) else bif bif s.k == 14 then c1 else false then k (Out.ret (AVal.tuple []) [P0, P1, Obj.var [AVal.int .i64 16, AVal.str s.el, AVal.str s.ar, AVal.int .u8 (↑s.dl.toNat : Int), AVal.str s.pe, AVal.str s.rf, AVal.int .i64 s.pt, AVal.str s.wd]]) else bif s.k != 16 then bif tst (((OkR (cells0H z0) ∧ ok (cells0H z0)) ∧ okc n0 = true) ∧ SubL z2 z2 ∧ z0 = [p0H z0, p1H z0, Obj.var (cells0H z0)]) then bif n2 == 0 then k (Out.ret (AVal.tuple []) z1) else k (Out.panic (errV n2) z1) else none else bif bif c1 then !c3 else false then bif decide (List.length s.pe + 1 ≤ 4611686018427387904) then k (Out.ret (AVal.tuple []) [P0, P1, Obj.var [AVal.int .i64 s.k, AVal.str s.el, AVal.str s.ar, AVal.int .u8 (↑s.dl.toNat : Int), AVal.str (List.append s.pe [45]), AVal.str s.rf, AVal.int .i64 s.pt, AVal.str s.wd]]) else none else bif bif n0 == 62 then c3 else false then k (Out.ret (AVal.tuple []) [P0, P1, Obj.var [AVal.int .i64 0, AVal.str [], AVal.str [], AVal.int .u8 0, AVal.str [], AVal.str [], AVal.int .i64 0, AVal.str []]]) else bif n0 != 45 then k (Out.ret (AVal.tuple []) [P0, P1, Obj.var [AVal.int .i64 s.k, AVal.str s.el, AVal.str s.ar, AVal.int .u8 (↑s.dl.toNat : Int), AVal.str [], AVal.str s.rf, AVal.int .i64 s.pt, AVal.str s.wd]]) else k (Out.ret (AVal.tuple []) [P0, P1, Obj.var (encSS s)])) := by kernel_rfl
noncomputable def layWt (T : Bs → Bs → Bool) : Lay := Lay.nil.addF 123 (startsTold T)
theorem smwaits_fun (T : Bs → Bs → Bool) (s : SS) (t : Bs) (P0 P1 : Obj) (k : Out → Ans) : iFun Tryz.prog ((layWt T).hd Tryz.prog) (layWt T).fhs 0 93 [.ptr (.hp 2) 0, .str t] [P0, P1, .var (encSS s)] k = (
 let l0 : List UInt8 := 60 :: 47 :: s.el;
 let c1 : Bool := decide (List.length t ≤ 1048576);
  bif decide (2 + List.length s.el ≤ 4611686018427387904) then
  bif decide (l0.length ≤ 1048576) && c1 then
  bif c1 then
  k
  (Out.ret (AVal.bool (bif T l0 t then true else bif s.k == 19 then T [60, 33, 45, 45] t else false))
  [P0, P1, Obj.var (encSS s)])
  else none
  else none
  else none) := by kernel_rfl
noncomputable def layPlZ (S : FX) (L : F0) (C : FC) : Lay := ((Lay.nil.addF 84 (mxTold S)).addF 86 (m0Told L)).addF 49 (mcTold okT C)
theorem smplain_fun (S : FX) (L : F0) (C : FC) (s : SS) (c : UInt8) (P0 P1 : Obj) (k : Out → Ans) : iFun Tryz.prog ((layPlZ S L C).hd Tryz.prog) (layPlZ S L C).fhs 0 92 [.ptr (.hp 2) 0, .int .u8 c.toNat] [P0, P1, .var (encSS s)] k = (
 let n0 : Int := (↑c.toNat : Int);
 let c1 : Bool := s.k == 17;
 let z0 := cells0H [P0, P1, Obj.var (encSS s)];
 let n2 : Int := (L z0).e;
 let n3 : Int := (C z0 n0).e;
 let l4 : List UInt8 := [byteOf [AVal.int .u8 n0]];
 let n5 : Int := (S z0 l4).e;
 let z1 := [p0H [P0, P1, Obj.var (encSS s)], p1H [P0, P1, Obj.var (encSS s)], Obj.var z0];
 let z2 := [p0H [P0, P1, Obj.var (encSS s)], p1H [P0, P1, Obj.var (encSS s)], Obj.var (encSS (C z0 n0).s)];
 let z3 := [p0H [P0, P1, Obj.var (encSS s)], p1H [P0, P1, Obj.var (encSS s)], Obj.var (encSS (S z0 l4).s)];
 let z4 := [AVal.ptr (Oid.hp 2) 0, AVal.int .u8 n0];
  bif n0 == 60 then bif c1 then bif tst (OkR z0 ∧ SubL [AVal.ptr (Oid.hp 2) 0] [AVal.ptr (Oid.hp 2) 0] ∧ [P0, P1, Obj.var (encSS s)] = z1) then bif n2 == 0 then k (Out.ret (AVal.tuple []) [p0H [P0, P1, Obj.var (encSS s)], p1H [P0, P1, Obj.var (encSS s)], Obj.var [AVal.int .i64 (L z0).s.k, AVal.str (L z0).s.el, AVal.str (L z0).s.ar, AVal.int .u8 (↑(L z0).s.dl.toNat : Int), AVal.str [60], AVal.str (L z0).s.rf, AVal.int .i64 (L z0).s.pt, AVal.str (L z0).s.wd]]) else k (Out.panic (errV n2) [p0H [P0, P1, Obj.var (encSS s)], p1H [P0, P1, Obj.var (encSS s)], Obj.var (encSS (L z0).s)]) else none else k (Out.ret (AVal.tuple []) [P0, P1, Obj.var [AVal.int .i64 s.k, AVal.str s.el, AVal.str s.ar, AVal.int .u8 (↑s.dl.toNat : Int), AVal.str [60], AVal.str s.rf, AVal.int .i64 s.pt, AVal.str s.wd]]) else bif c1 then bif tst (((OkR z0 ∧ okT z0) ∧ okc n0 = true) ∧ SubL z4 z4 ∧ [P0, P1, Obj.var (encSS s)] = z1) then bif n3 == 0 then k (Out.ret (AVal.tuple []) z2) else k (Out.panic (errV n3) z2) else none else bif tst ((OkR z0 ∧ 1 ≤ 1048576) ∧ SubL [AVal.ptr (Oid.hp 2) 0, AVal.str l4] [AVal.ptr (Oid.hp 2) 0, AVal.str l4] ∧ [P0, P1, Obj.var (encSS s)] = z1) then bif n5 == 0 then k (Out.ret (AVal.tuple []) z3) else k (Out.panic (errV n5) z3) else none) := by kernel_rfl
noncomputable def wtTold (F : List AVal → Bs → Bool) : FSp := mkF (fun xs H => (mhD H, aS xs 1)) (fun a => OkR a.1.x ∧ a.2.length ≤ 100000) (fun a => [.ptr (.hp 2) 0, .str a.2]) (fun a => [a.1.P0, a.1.P1, .var a.1.x]) (fun a k => k (.ret (.bool (F a.1.x a.2)) [a.1.P0, a.1.P1, .var a.1.x]))
noncomputable def layRw (B : Int → Bool) (S : FX) (W : List AVal → Bs → Bool) (P T : FC) : Lay := ((((Lay.nil.addF 89 (c8Told B)).addF 84 (mxTold S)).addF 93 (wtTold W)).addF 92 (mcTold okT P)).addF 52 (mcTold okT T)
theorem smraw_fun (B : Int → Bool) (S : FX) (W : List AVal → Bs → Bool) (P T : FC) (s : SS) (c : UInt8) (P0 P1 : Obj) (k : Out → Ans) : iFun Tryz.prog ((layRw B S W P T).hd Tryz.prog) (layRw B S W P T).fhs 0 58 [.ptr (.hp 2) 0, .int .u8 c.toNat] [P0, P1, .var (encSS s)] k = (
 let n0 : Int := (↑c.toNat : Int);
 let c1 : Bool := okc n0;
 let z3 := cells0H [P0, P1, Obj.var (encSS s)];
 let n2 : Int := (P z3 n0).e;
 let l3 : List UInt8 := List.append s.pe [byteOf [AVal.int .u8 n0]];
 let n4 : Int := (↑(List.length s.pe) : Int);
 let c5 : Bool := n4 == IntKind.i64.wrap ((↑(List.length s.el) : Int) + 2);
 let z1 := [p0H [P0, P1, Obj.var (encSS s)], p1H [P0, P1, Obj.var (encSS s)], Obj.var [AVal.int .i64 4, AVal.str (47 :: s.el), AVal.str [], AVal.int .u8 0, AVal.str [], AVal.str [], AVal.int .i64 0, AVal.str []]];
 let n6 : Int := (T (cells0H z1) n0).e;
 let z0 := [p0H [P0, P1, Obj.var (encSS s)], p1H [P0, P1, Obj.var (encSS s)], Obj.var [AVal.int .i64 s.k, AVal.str s.el, AVal.str s.ar, AVal.int .u8 (↑s.dl.toNat : Int), AVal.str [], AVal.str s.rf, AVal.int .i64 s.pt, AVal.str s.wd]];
 let n7 : Int := (S (cells0H z0) s.pe).e;
 let z2 := [p0H z0, p1H z0, Obj.var (encSS (S (cells0H z0) s.pe).s)];
 let n8 : Int := (P (cells0H z2) n0).e;
 let z4 := [AVal.ptr (Oid.hp 2) 0, AVal.int .u8 n0];
 let z5 := [p0H [P0, P1, Obj.var (encSS s)], p1H [P0, P1, Obj.var (encSS s)], Obj.var z3];
 let z6 := [p0H [P0, P1, Obj.var (encSS s)], p1H [P0, P1, Obj.var (encSS s)], Obj.var (encSS (P z3 n0).s)];
 let z7 := [p0H z1, p1H z1, Obj.var (encSS (T (cells0H z1) n0).s)];
 let z8 := [p0H z2, p1H z2, Obj.var (encSS (P (cells0H z2) n0).s)];
  bif s.pe == [] then bif tst (((OkR z3 ∧ okT z3) ∧ c1 = true) ∧ SubL z4 z4 ∧ [P0, P1, Obj.var (encSS s)] = z5) then bif n2 == 0 then k (Out.ret (AVal.tuple []) z6) else k (Out.panic (errV n2) z6) else none else bif decide (List.length s.pe + 1 ≤ 4611686018427387904) then bif tst ((OkR z3 ∧ l3.length ≤ 100000) ∧ SubL [AVal.ptr (Oid.hp 2) 0, AVal.str l3] [AVal.ptr (Oid.hp 2) 0, AVal.str l3] ∧ [P0, P1, Obj.var (encSS s)] = z5) then bif W z3 l3 then bif !!l3 == [60, 33, 45, 45] then k (Out.panic (AVal.iface 29 (AVal.int .i64 94)) z5) else k (Out.ret (AVal.tuple []) [p0H [P0, P1, Obj.var (encSS s)], p1H [P0, P1, Obj.var (encSS s)], Obj.var [AVal.int .i64 s.k, AVal.str s.el, AVal.str s.ar, AVal.int .u8 (↑s.dl.toNat : Int), AVal.str l3, AVal.str s.rf, AVal.int .i64 s.pt, AVal.str s.wd]]) else bif decide (1 < n4) || !c5 then bif c1 then bif bif bif c5 then (↑(List.getD s.pe 1 0).toNat : Int) == 47 else false then bif bif B n0 then true else n0 == 47 then true else n0 == 62 else false then bif decide (1 + List.length s.el ≤ 4611686018427387904) then bif tst (((OkR (cells0H z1) ∧ okT (cells0H z1)) ∧ c1 = true) ∧ SubL z4 z4 ∧ z1 = [p0H z1, p1H z1, Obj.var (cells0H z1)]) then bif n6 == 0 then k (Out.ret (AVal.tuple []) z7) else k (Out.panic (errV n6) z7) else none else none else bif tst ((OkR (cells0H z0) ∧ List.length s.pe ≤ 1048576) ∧ SubL [AVal.ptr (Oid.hp 2) 0, AVal.str s.pe] [AVal.ptr (Oid.hp 2) 0, AVal.str s.pe] ∧ z0 = [p0H z0, p1H z0, Obj.var (cells0H z0)]) then bif n7 == 0 then bif tst (((OkR (cells0H z2) ∧ okT (cells0H z2)) ∧ c1 = true) ∧ SubL z4 z4 ∧ z2 = [p0H z2, p1H z2, Obj.var (cells0H z2)]) then bif n8 == 0 then k (Out.ret (AVal.tuple []) z8) else k (Out.panic (errV n8) z8) else none else k (Out.panic (errV n7) z2) else none else none else none else none else none) := by kernel_rfl
end Go.Mu
namespace Go.Mu
open Go Go.Proofs
variable (P0 P1 : Obj)
theorem call_tail {p : Prop} (hp : p) (r : ScR) (k : Out → Ans) : (bif tst p then (bif r.e == 0 then k (.ret (.tuple []) [P0, P1, .var (encSS r.s)]) else k (.panic (errV r.e) [P0, P1, .var (encSS r.s)])) else none) = k (scOut P0 P1 r) := by
 rw [tst_true hp]
 exact scPost_eq P0 P1 r k
theorem call_then {p : Prop} (hp : p) (r : ScR) (f : SS → ScR) (X : Ans) (k : Out → Ans) (h : r.e = 0 → X = k (scOut P0 P1 (f r.s))) : (bif tst p then (bif r.e == 0 then X else k (.panic (errV r.e) [P0, P1, .var (encSS r.s)])) else none) = k (scOut P0 P1 (r.then f)) := by
 rw [tst_true hp]
 unfold ScR.then
 cases he : r.e == 0 with
 | true => exact h (by simpa using he)
 | false =>
  have : scOut P0 P1 r = .panic (errV r.e) [P0, P1, .var (encSS r.s)] := by unfold scOut; rw [he]; rfl
  show k _ = k (scOut P0 P1 r)
  rw [this]
abbrev eqH (P0 P1 : Obj) (x : List AVal) : Prop := [P0, P1, Obj.var x] = [p0H [P0, P1, Obj.var x], p1H [P0, P1, Obj.var x], Obj.var (cells0H [P0, P1, Obj.var x])]
theorem sub_okM {s : SS} (h : OkM s) (x : Bs) : OkM (subS s x).s := by
 have hs := sub_same s x
 refine ⟨by rw [hs.2.1]; exact h.el, by rw [hs.2.2.1]; exact h.ar, by rw [hs.2.2.2.2.1]; exact h.pe, by rw [hs.2.2.2.1]; exact h.rf, ?_⟩
 unfold subS
 cases langM s == 1
 · cases langM s == 2
   · cases langM s == 3
     · exact h.pw
     · exact feedP_pw csStep_pw x _ _ h.pw
   · exact feedP_pw jsStep_pw x _ _ h.pw
 · exact feedP_pw urlStep_pw x _ _ h.pw
theorem flush_okM {s : SS} (h : OkM s) : OkM (flushS s).s := sub_okM (h.rf0 (t := []) (by simp)) _
theorem layCh_ok : (layCh subX flushX unfM).OK Tryz.prog := (((Lay.nil_ok.addF mxSub_ok).addF m0Flush_ok).addF onePTold_ok).addF unfTold_ok
theorem mchar_ok (s : SS) (c : UInt8) (h : OkM s) (_ : True) : CallOK Tryz.prog 49 [.ptr (.hp 2) 0, .int .u8 c.toNat] [P0, P1, .var (encSS s)] (scOut P0 P1 (charS oneP unfM s c)) := layCh_ok.call (fun k => by
 refine (smchar_fun subX flushX unfM s c P0 P1 k).trans ?_
 have hr := h.rf
 have h0 : OkM { s with rf := [] } := h.rf0 (t := []) (by simp)
 simp only [byteOf0, ek38]
 have tail : ∀ (s' : SS) (p : Prop), p → (bif c == 38 then k (.ret (.tuple []) [P0, P1, .var (encSS { s' with rf := [38] })]) else bif tst p then (bif (subX (encSS s') [c]).e == 0 then k (.ret (.tuple []) [P0, P1, .var (encSS (subX (encSS s') [c]).s)]) else k (.panic (errV (subX (encSS s') [c]).e) [P0, P1, .var (encSS (subX (encSS s') [c]).s)])) else none) = k (scOut P0 P1 (charS0 s' c)) := fun s' p hp => by
  unfold charS0
  cases c == 38 with
  | true => rfl
  | false => exact (call_tail P0 P1 hp (subX (encSS s') [c]) k).trans (congrArg (fun r => k (scOut P0 P1 r)) (subX_enc s' [c]))
 unfold charS
 cases hrf : s.rf == [] with
 | true =>
  have e : (s.rf != []) = false := by unfold bne; rw [hrf]; rfl
  rw [e]
  exact tail s _ ⟨⟨OkR_enc h, by omega⟩, .refl _, rfl⟩
 | false =>
  have e : (s.rf != []) = true := by unfold bne; rw [hrf]; rfl
  rw [e]
  have e1 : (List.append s.rf [c]) = s.rf ++ [c] := rfl
  have l1 : (s.rf ++ [c]).length = s.rf.length + 1 := by rw [List.length_append]; rfl
  rw [e1]
  simp only [Bool.not_false, cond_true, l1, dT (show s.rf.length + 1 ≤ 4611686018427387904 by omega), dT (show s.rf.length + 1 ≤ 1099511627776 by omega), dT (show s.rf.length + 1 ≤ 1048576 by omega)]
  have ei : (((oneP (s.rf ++ [c])).2 : Int) == ((s.rf.length + 1 : Nat) : Int)) = ((oneP (s.rf ++ [c])).2 == s.rf.length + 1) := by rw [Bool.eq_iff_iff, beq_iff_eq, beq_iff_eq]; omega
  have ho := (oneP_is (s.rf ++ [c]) (by rw [l1]; omega)).1
  rw [ei]
  cases (oneP (s.rf ++ [c])).2 == s.rf.length + 1 with
  | true => exact (call_tail P0 P1 ⟨⟨OkR_enc h0, by omega⟩, .refl _, rfl⟩ (subX (encSS { s with rf := [] }) (oneP (s.rf ++ [c])).1) k).trans (congrArg (fun r => k (scOut P0 P1 r)) (subX_enc _ _))
  | false =>
   cases unfM (s.rf ++ [c]) with
   | true => rfl
   | false =>
    have ef : flushX (encSS s) = flushS s := flushX_enc s
    have hf := flush_okM h
    refine Eq.trans ?_ (call_then P0 P1 (p := OkR (encSS s) ∧ SubL [AVal.ptr (Oid.hp 2) 0] [AVal.ptr (Oid.hp 2) 0] ∧ eqH P0 P1 (encSS s)) ⟨OkR_enc h, .refl _, rfl⟩ (flushS s) (fun s => charS0 s c) _ k (fun _ => tail (flushS s).s ((OkR (encSS (flushS s).s) ∧ 1 ≤ 1048576) ∧ SubL [AVal.ptr (Oid.hp 2) 0, AVal.str [c]] [AVal.ptr (Oid.hp 2) 0, AVal.str [c]] ∧ eqH P0 P1 (encSS (flushS s).s)) ⟨⟨OkR_enc hf, by omega⟩, .refl _, rfl⟩))
    rw [← ef]
    rfl)
noncomputable def charX : FC := fun x n => charS oneP unfM (decSS x) (u8 n)
theorem charX_enc (s : SS) (c : UInt8) : charX (encSS s) c.toNat = charS oneP unfM s c := by unfold charX; rw [decSS_enc, u8_back]
theorem mcChar_ok : ∀ xs H k out, mcTold okT charX xs H k = some out → ∃ o, CallOK Tryz.prog 49 xs H o ∧ k o = some out := mcTold_ok (ok := fun _ => True) mchar_ok
theorem layE0_ok : layE0.OK Tryz.prog := Lay.nil_ok.addF elmTold_ok
theorem elmK_r (s : Bs) : 0 ≤ elmK s ∧ elmK s ≤ 4 := by
 unfold elmK
 repeat' with_reducible apply i_bif (P := fun x => 0 ≤ x ∧ x ≤ 4)
 all_goals omega
theorem mend_ok (s : SS) (h : OkM s) : CallOK Tryz.prog 91 [.ptr (.hp 2) 0] [P0, P1, .var (encSS s)] (scOut P0 P1 (endS s)) := layE0_ok.call (fun k => by
 refine (smend_fun s P0 P1 k).trans ?_
 have hr := elmK_r s.el
 have e : IntKind.i64.wrap (IntKind.i64.wrap (17 + elmK s.el) - 1) = 16 + elmK s.el := by
  rw [wrap_of (n := 17 + elmK s.el) (by omega) (by omega), wrap_of (by omega) (by omega)]; omega
 rw [e]
 unfold endS
 cases decide (elmK s.el ≤ 3) with
 | false => rfl
 | true => cases elmK s.el == 0 <;> rfl)
noncomputable def endX : F0 := fun x => endS (decSS x)
theorem endX_enc (s : SS) : endX (encSS s) = endS s := by unfold endX; rw [decSS_enc]
theorem m0End_ok : ∀ xs H k out, m0Told endX xs H k = some out → ∃ o, CallOK Tryz.prog 91 xs H o ∧ k o = some out := m0Told_ok mend_ok
theorem layW0_okZ : (layW0Z blankR endX).OK Tryz.prog := ((Lay.nil_ok.addF blankT_ok).addF lowTold_ok).addF m0End_ok
theorem mwithin_ok (s : SS) (c : UInt8) (h : OkM s) (_ : True) : CallOK Tryz.prog 53 [.ptr (.hp 2) 0, .int .u8 c.toNat] [P0, P1, .var (encSS s)] (scOut P0 P1 (withinS s c)) := layW0_okZ.call (fun k => by
 refine (smwithin_fun blankR endX s c P0 P1 k).trans ?_
 simp only [okc_u8, blankR_u8, ek47, ek62, low1, cond_true]
 unfold withinS
 cases blankB c with
 | true => rfl
 | false =>
  cases c == 47 with
  | true => rfl
  | false =>
   cases c == 62 with
   | true => exact (call_tail P0 P1 ⟨OkR_enc h, .refl _, rfl⟩ (endX (encSS s)) k).trans (congrArg (fun r => k (scOut P0 P1 r)) (endX_enc s))
   | false => rfl)
noncomputable def withinX : FC := fun x n => withinS (decSS x) (u8 n)
theorem withinX_enc (s : SS) (c : UInt8) : withinX (encSS s) c.toNat = withinS s c := by unfold withinX; rw [decSS_enc, u8_back]
theorem mcWithin_ok : ∀ xs H k out, mcTold okT withinX xs H k = some out → ∃ o, CallOK Tryz.prog 53 xs H o ∧ k o = some out := mcTold_ok (ok := fun _ => True) mwithin_ok
theorem layT0_ok : (layT0 blankR withinX).OK Tryz.prog := ((Lay.nil_ok.addF blankT_ok).addF lowTold_ok).addF mcWithin_ok
theorem dl33' (n : Nat) : decide ((n : Int) < 33) = decide (n < 33) := by rw [decide_eq_decide]; omega
theorem dl32' (n : Nat) : decide ((n : Int) < 32) = decide (n < 32) := by rw [decide_eq_decide]; omega
theorem mtag_ok (s : SS) (c : UInt8) (h : OkM s) (_ : True) : CallOK Tryz.prog 52 [.ptr (.hp 2) 0, .int .u8 c.toNat] [P0, P1, .var (encSS s)] (scOut P0 P1 (tagNameS s c)) := layT0_ok.call (fun k => by
 refine (smtag_fun blankR withinX s c P0 P1 k).trans ?_
 have hl := h.el
 simp only [okc_u8, blankR_u8, ek47, ek62, byteOf1, cond_true, bif_or, dT (show s.el.length + 1 ≤ 4611686018427387904 by omega), dl33', dl32']
 unfold tagNameS
 cases blankB c || c == 47 || c == 62 with
 | true => exact (call_tail P0 P1 ⟨⟨⟨OkR_enc h, trivial⟩, by trivial⟩, .refl _, rfl⟩ (withinX (encSS s) c.toNat) k).trans (congrArg (fun r => k (scOut P0 P1 r)) (withinX_enc s c))
 | false =>
  cases s.k == 4 with
  | true =>
   have e : decide ((s.el.length : Int) < 32 + (bif true then 1 else 0)) = decide (s.el.length < 33) := by rw [decide_eq_decide]; show (s.el.length : Int) < 32 + 1 ↔ _; omega
   rw [e]
   cases decide (s.el.length < 33) <;> rfl
  | false =>
   have e : decide ((s.el.length : Int) < 32 + (bif false then 1 else 0)) = decide (s.el.length < 32) := by rw [decide_eq_decide]; show (s.el.length : Int) < 32 + 0 ↔ _; omega
   rw [e]
   cases decide (s.el.length < 32) <;> rfl)
noncomputable def tagX : FC := fun x n => tagNameS (decSS x) (u8 n)
theorem tagX_enc (s : SS) (c : UInt8) : tagX (encSS s) c.toNat = tagNameS s c := by unfold tagX; rw [decSS_enc, u8_back]
theorem mcTag_ok : ∀ xs H k out, mcTold okT tagX xs H k = some out → ∃ o, CallOK Tryz.prog 52 xs H o ∧ k o = some out := mcTold_ok (ok := fun _ => True) mtag_ok
theorem ek61b (c : UInt8) : ((c.toNat : Int) == 61) = (c == 61) := eqk c 61 rfl
theorem mattr_ok (s : SS) (c : UInt8) (h : OkM s) (_ : True) : CallOK Tryz.prog 54 [.ptr (.hp 2) 0, .int .u8 c.toNat] [P0, P1, .var (encSS s)] (scOut P0 P1 (attrS s c)) := layT0_ok.call (fun k => by
 refine (smattr_fun blankR withinX s c P0 P1 k).trans ?_
 have hl := h.ar
 simp only [okc_u8, blankR_u8, ek47, ek62, ek61b, byteOf1, cond_true, bif_or, dT (show s.ar.length + 1 ≤ 4611686018427387904 by omega), dl32']
 unfold attrS
 cases blankB c with
 | true => rfl
 | false =>
  cases c == 61 with
  | true => rfl
  | false =>
   cases c == 47 || c == 62 || s.k == 7 with
   | true => exact (call_tail P0 P1 ⟨⟨⟨OkR_enc h, trivial⟩, by trivial⟩, .refl _, rfl⟩ (withinX (encSS s) c.toNat) k).trans (congrArg (fun r => k (scOut P0 P1 r)) (withinX_enc s c))
   | false => cases decide (s.ar.length < 32) <;> rfl)
noncomputable def attrX : FC := fun x n => attrS (decSS x) (u8 n)
theorem attrX_enc (s : SS) (c : UInt8) : attrX (encSS s) c.toNat = attrS s c := by unfold attrX; rw [decSS_enc, u8_back]
theorem mcAttr_ok : ∀ xs H k out, mcTold okT attrX xs H k = some out → ∃ o, CallOK Tryz.prog 54 xs H o ∧ k o = some out := mcTold_ok (ok := fun _ => True) mattr_ok
theorem layA0_ok : (layA0 blankR endX charX).OK Tryz.prog := ((Lay.nil_ok.addF blankT_ok).addF m0End_ok).addF mcChar_ok
theorem OkM.kd {s : SS} (h : OkM s) (k : Int) : OkM { s with k := k } := ⟨h.el, h.ar, h.pe, h.rf, h.pw⟩
theorem mwant_ok (s : SS) (c : UInt8) (h : OkM s) (_ : True) : CallOK Tryz.prog 55 [.ptr (.hp 2) 0, .int .u8 c.toNat] [P0, P1, .var (encSS s)] (scOut P0 P1 (wantS oneP unfM s c)) := layA0_ok.call (fun k => by
 refine (smwant_fun blankR endX charX s c P0 P1 k).trans ?_
 simp only [okc_u8, blankR_u8, ek34, ek39, ek62, cond_true, bif_or]
 unfold wantS
 cases blankB c with
 | true => rfl
 | false =>
  cases c == 34 || c == 39 with
  | true => rfl
  | false =>
   cases c == 62 with
   | true => exact (call_tail P0 P1 ⟨OkR_enc h, .refl _, rfl⟩ (endX (encSS s)) k).trans (congrArg (fun r => k (scOut P0 P1 r)) (endX_enc s))
   | false => exact (call_tail P0 P1 ⟨⟨⟨OkR_enc (h.kd 10), trivial⟩, by trivial⟩, .refl _, rfl⟩ (charX (encSS { s with k := 10 }) c.toNat) k).trans (congrArg (fun r => k (scOut P0 P1 r)) (charX_enc _ c)))
noncomputable def wantX : FC := fun x n => wantS oneP unfM (decSS x) (u8 n)
theorem wantX_enc (s : SS) (c : UInt8) : wantX (encSS s) c.toNat = wantS oneP unfM s c := by unfold wantX; rw [decSS_enc, u8_back]
theorem mcWant_ok : ∀ xs H k out, mcTold okT wantX xs H k = some out → ∃ o, CallOK Tryz.prog 55 xs H o ∧ k o = some out := mcTold_ok (ok := fun _ => True) mwant_ok
theorem layV0_ok : (layV0 blankR flushX withinX charX).OK Tryz.prog := (((Lay.nil_ok.addF blankT_ok).addF m0Flush_ok).addF mcChar_ok).addF mcWithin_ok
theorem eku (c d : UInt8) : ((c.toNat : Int) == (d.toNat : Int)) = (c == d) := eqk c d rfl
theorem mval_ok (s : SS) (c : UInt8) (h : OkM s) (_ : True) : CallOK Tryz.prog 56 [.ptr (.hp 2) 0, .int .u8 c.toNat] [P0, P1, .var (encSS s)] (scOut P0 P1 (inValueS oneP unfM s c)) := layV0_ok.call (fun k => by
 refine (smval_fun blankR flushX withinX charX s c P0 P1 k).trans ?_
 have ef : flushX (encSS s) = flushS s := flushX_enc s
 have hf := flush_okM h
 simp only [okc_u8, blankR_u8, eku, ek62, cond_true, bif_or, bif_and]
 unfold inValueS
 cases s.k == 9 && c == s.dl with
 | true =>
  refine Eq.trans ?_ (call_then P0 P1 (p := OkR (encSS s) ∧ SubL [AVal.ptr (Oid.hp 2) 0] [AVal.ptr (Oid.hp 2) 0] ∧ eqH P0 P1 (encSS s)) ⟨OkR_enc h, .refl _, rfl⟩ (flushS s) (fun s => sOk (toS s 11)) _ k (fun _ => rfl))
  rw [← ef]
  rfl
 | false =>
  cases s.k == 10 && (blankB c || c == 62) with
  | true =>
   refine Eq.trans ?_ (call_then P0 P1 (p := OkR (encSS s) ∧ SubL [AVal.ptr (Oid.hp 2) 0] [AVal.ptr (Oid.hp 2) 0] ∧ eqH P0 P1 (encSS s)) ⟨OkR_enc h, .refl _, rfl⟩ (flushS s) (fun s => withinS s c) _ k (fun _ => (call_tail P0 P1 (p := ((OkR (encSS (flushS s).s) ∧ okT (encSS (flushS s).s)) ∧ True) ∧ SubL [AVal.ptr (Oid.hp 2) 0, AVal.int .u8 c.toNat] [AVal.ptr (Oid.hp 2) 0, AVal.int .u8 c.toNat] ∧ eqH P0 P1 (encSS (flushS s).s)) ⟨⟨⟨OkR_enc hf, trivial⟩, trivial⟩, .refl _, rfl⟩ (withinX (encSS (flushS s).s) c.toNat) k).trans (congrArg (fun r => k (scOut P0 P1 r)) (withinX_enc _ c))))
   rw [← ef]
   rfl
  | false => exact (call_tail P0 P1 ⟨⟨⟨OkR_enc h, trivial⟩, by trivial⟩, .refl _, rfl⟩ (charX (encSS s) c.toNat) k).trans (congrArg (fun r => k (scOut P0 P1 r)) (charX_enc s c)))
noncomputable def valX : FC := fun x n => inValueS oneP unfM (decSS x) (u8 n)
theorem valX_enc (s : SS) (c : UInt8) : valX (encSS s) c.toNat = inValueS oneP unfM s c := by unfold valX; rw [decSS_enc, u8_back]
theorem mcVal_ok : ∀ xs H k out, mcTold okT valX xs H k = some out → ∃ o, CallOK Tryz.prog 56 xs H o ∧ k o = some out := mcTold_ok (ok := fun _ => True) mval_ok
end Go.Mu
namespace Go.Mu
open Go Go.Proofs
noncomputable def layS0 (C : FC) : Lay := Lay.nil.addF 49 (mcTold okT C)
theorem smst0_fun (C : FC) (el ar : Bs) (dl : UInt8) (pe rf : Bs) (pt : Int) (wd : Bs) (c : UInt8) (P0 P1 : Obj) (k : Out → Ans) : iFun Tryz.prog ((layS0 C).hd Tryz.prog) (layS0 C).fhs 0 27 [.ptr (.hp 2) 0, .int .u8 c.toNat] [P0, P1, .var (encSS ⟨0, el, ar, dl, pe, rf, pt, wd⟩)] k = (
 let n0 : Int := (↑c.toNat : Int);
 let z0 := [P0, P1, Obj.var (encSS (SS.mk 0 el ar dl pe rf pt wd))];
 let n1 : Int := (C (cells0H z0) n0).e;
 let z1 := [p0H z0, p1H z0, Obj.var (encSS (C (cells0H z0) n0).s)];
 let z2 := [AVal.ptr (Oid.hp 2) 0, AVal.int .u8 n0];
  bif n0 == 60 then k (Out.ret (AVal.tuple []) [P0, P1, Obj.var [AVal.int .i64 1, AVal.str [], AVal.str [], AVal.int .u8 0, AVal.str [], AVal.str [], AVal.int .i64 0, AVal.str []]]) else bif tst (((OkR (cells0H z0) ∧ okT (cells0H z0)) ∧ okc n0 = true) ∧ SubL z2 z2 ∧ z0 = [p0H z0, p1H z0, Obj.var (cells0H z0)]) then bif n1 == 0 then k (Out.ret (AVal.tuple []) z1) else k (Out.panic (errV n1) z1) else none) := by kernel_rfl
theorem smst15_fun (C : FC) (el ar : Bs) (dl : UInt8) (pe rf : Bs) (pt : Int) (wd : Bs) (c : UInt8) (P0 P1 : Obj) (k : Out → Ans) : iFun Tryz.prog ((layS0 C).hd Tryz.prog) (layS0 C).fhs 0 27 [.ptr (.hp 2) 0, .int .u8 c.toNat] [P0, P1, .var (encSS ⟨15, el, ar, dl, pe, rf, pt, wd⟩)] k = (
 bif (↑c.toNat : Int) == 62 then
 k
 (Out.ret (AVal.tuple [])
 [P0, P1,
 Obj.var
 [AVal.int .i64 0, AVal.str [], AVal.str [], AVal.int .u8 0, AVal.str [], AVal.str [],
 AVal.int .i64 0, AVal.str []]])
 else k (Out.ret (AVal.tuple []) [P0, P1, Obj.var (encSS (SS.mk 15 el ar dl pe rf pt wd))])) := by kernel_rfl
def okEZ : List AVal → Prop := fun x => (decSS x).el.length ≤ 900
noncomputable def layS1Z (C Bg BE T W A Wa V Re Ra : FC) : Lay := (((((((((Lay.nil.addF 49 (mcTold okT C)).addF 50 (mcTold okT Bg)).addF 51 (mcTold okT BE)).addF 52 (mcTold okT T)).addF 53 (mcTold okT W)).addF 54 (mcTold okT A)).addF 55 (mcTold okT Wa)).addF 56 (mcTold okT V)).addF 57 (mcTold okT Re)).addF 58 (mcTold okEZ Ra)
end Go.Mu
namespace Go.Mu
open Go Go.Proofs
variable (P0 P1 : Obj)
def ok0 (s : SS) : Prop := s.k = 0 ∨ s.k = 15
noncomputable def stepB (s : SS) (c : UInt8) : ScR := bif s.k == 0 then dataS oneP unfM s c else bogusS s c
theorem layS0_ok : (layS0 charX).OK Tryz.prog := Lay.nil_ok.addF mcChar_ok
theorem stepB_ok (s : SS) (c : UInt8) (h : OkM s) (hk : ok0 s) : CallOK Tryz.prog 27 [.ptr (.hp 2) 0, .int .u8 c.toNat] [P0, P1, .var (encSS s)] (scOut P0 P1 (stepB s c)) := layS0_ok.call (fun k => by
 obtain ⟨sk, el, ar, dl, pe, rf, pt, wd⟩ := s
 rcases hk with hk | hk
 · have hk : sk = 0 := hk
   subst hk
   refine (smst0_fun charX el ar dl pe rf pt wd c P0 P1 k).trans ?_
   simp only [okc_u8, ek60, cond_true]
   show _ = k (scOut P0 P1 (dataS oneP unfM ⟨0, el, ar, dl, pe, rf, pt, wd⟩ c))
   unfold dataS
   cases c == 60 with
   | true => rfl
   | false => exact (call_tail P0 P1 ⟨⟨⟨OkR_enc h, trivial⟩, by trivial⟩, .refl _, rfl⟩ (charX (encSS ⟨0, el, ar, dl, pe, rf, pt, wd⟩) c.toNat) k).trans (congrArg (fun r => k (scOut P0 P1 r)) (charX_enc _ c))
 · have hk : sk = 15 := hk
   subst hk
   refine (smst15_fun charX el ar dl pe rf pt wd c P0 P1 k).trans ?_
   simp only [okc_u8, ek62, cond_true]
   show _ = k (scOut P0 P1 (bogusS ⟨15, el, ar, dl, pe, rf, pt, wd⟩ c))
   unfold bogusS
   cases c == 62 <;> rfl)
noncomputable def stepBX : FC := fun x n => stepB (decSS x) (u8 n)
theorem stepBX_enc (s : SS) (c : UInt8) : stepBX (encSS s) c.toNat = stepB s c := by unfold stepBX; rw [decSS_enc, u8_back]
def ok0R : List AVal → Prop := fun x => ok0 (decSS x)
theorem ok0R_enc {s : SS} (h : ok0 s) : ok0R (encSS s) := by unfold ok0R; rw [decSS_enc]; exact h
theorem mcStepB_ok : ∀ xs H k out, mcTold ok0R stepBX xs H k = some out → ∃ o, CallOK Tryz.prog 27 xs H o ∧ k o = some out := mcTold_ok (ok := ok0) stepB_ok
theorem layB0_ok : (layB0 letterR ok0R stepBX).OK Tryz.prog := ((Lay.nil_ok.addF letterT_ok).addF lowTold_ok).addF mcStepB_ok
theorem ok_ss0 : OkM ss0 := ⟨by decide, by decide, by decide, by decide, ⟨by decide, by decide, by decide⟩⟩
theorem mbegin_ok (s : SS) (c : UInt8) (h : OkM s) (_ : True) : CallOK Tryz.prog 50 [.ptr (.hp 2) 0, .int .u8 c.toNat] [P0, P1, .var (encSS s)] (scOut P0 P1 (beginS oneP unfM s c)) := layB0_ok.call (fun k => by
 refine (smbegin_fun letterR ok0R stepBX s c P0 P1 k).trans ?_
 simp only [okc_u8, letterR_u8, ek47, ek33, ek63, low1, cond_true]
 unfold beginS
 cases letterB c with
 | true => rfl
 | false =>
  cases c == 47 with
  | true => rfl
  | false =>
   cases c == 33 with
   | true => rfl
   | false =>
    cases c == 63 with
    | true => rfl
    | false => exact (call_tail P0 P1 ⟨⟨⟨OkR_enc ok_ss0, ok0R_enc (s := ss0) (.inl rfl)⟩, by trivial⟩, .refl _, rfl⟩ (stepBX (encSS ss0) c.toNat) k).trans (congrArg (fun r => k (scOut P0 P1 r)) (stepBX_enc ss0 c)))
noncomputable def beginX : FC := fun x n => beginS oneP unfM (decSS x) (u8 n)
theorem beginX_enc (s : SS) (c : UInt8) : beginX (encSS s) c.toNat = beginS oneP unfM s c := by unfold beginX; rw [decSS_enc, u8_back]
theorem mcBegin_ok : ∀ xs H k out, mcTold okT beginX xs H k = some out → ∃ o, CallOK Tryz.prog 50 xs H o ∧ k o = some out := mcTold_ok (ok := fun _ => True) mbegin_ok
theorem mbeginE_ok (s : SS) (c : UInt8) (h : OkM s) (_ : True) : CallOK Tryz.prog 51 [.ptr (.hp 2) 0, .int .u8 c.toNat] [P0, P1, .var (encSS s)] (scOut P0 P1 (beginEndS s c)) := layB0_ok.call (fun k => by
 refine (smbeginE_fun letterR ok0R stepBX s c P0 P1 k).trans ?_
 simp only [okc_u8, letterR_u8, ek62, low1, cond_true]
 unfold beginEndS
 cases letterB c with
 | true => rfl
 | false => cases c == 62 <;> rfl)
noncomputable def beginEX : FC := fun x n => beginEndS (decSS x) (u8 n)
theorem beginEX_enc (s : SS) (c : UInt8) : beginEX (encSS s) c.toNat = beginEndS s c := by unfold beginEX; rw [decSS_enc, u8_back]
theorem mcBeginE_ok : ∀ xs H k out, mcTold okT beginEX xs H k = some out → ∃ o, CallOK Tryz.prog 51 xs H o ∧ k o = some out := mcTold_ok (ok := fun _ => True) mbeginE_ok
theorem mrem_ok (s : SS) (c : UInt8) (h : OkM s) (_ : True) : CallOK Tryz.prog 57 [.ptr (.hp 2) 0, .int .u8 c.toNat] [P0, P1, .var (encSS s)] (scOut P0 P1 (remarkS s c)) := layB0_ok.call (fun k => by
 refine (smrem_fun letterR ok0R stepBX s c P0 P1 k).trans ?_
 have hp := h.pe
 simp only [okc_u8, ek45, ek62, bif_and, dT (show s.pe.length + 1 ≤ 4611686018427387904 by omega), cond_true, bne]
 unfold remarkS
 simp only [bne]
 cases s.k == 13 && c == 45 with
 | true => rfl
 | false =>
  cases s.k == 14 && c == 45 with
  | true => rfl
  | false =>
   cases s.k == 16 with
   | false => exact (call_tail P0 P1 ⟨⟨⟨OkR_enc (h.kd 15), ok0R_enc (s := { s with k := 15 }) (.inr rfl)⟩, by trivial⟩, .refl _, rfl⟩ (stepBX (encSS { s with k := 15 }) c.toNat) k).trans (congrArg (fun r => k (scOut P0 P1 r)) (stepBX_enc { s with k := 15 } c))
   | true =>
    cases hAZ : c == 45 && !(s.pe == [45, 45]) with
    | true => rfl
    | false => cases hB : c == 62 && s.pe == [45, 45] <;> cases c == 45 <;> rfl)
noncomputable def remX : FC := fun x n => remarkS (decSS x) (u8 n)
theorem remX_enc (s : SS) (c : UInt8) : remX (encSS s) c.toNat = remarkS s c := by unfold remX; rw [decSS_enc, u8_back]
theorem mcRem_ok : ∀ xs H k out, mcTold okT remX xs H k = some out → ∃ o, CallOK Tryz.prog 57 xs H o ∧ k o = some out := mcTold_ok (ok := fun _ => True) mrem_ok
theorem layWt_ok : (layWt startsB).OK Tryz.prog := Lay.nil_ok.addF startsTold_ok
theorem mwaits_ok (s : SS) (t : Bs) (h : OkM s) (ht : t.length ≤ 100000) : CallOK Tryz.prog 93 [.ptr (.hp 2) 0, .str t] [P0, P1, .var (encSS s)] (.ret (.bool (waitsB s t)) [P0, P1, .var (encSS s)]) := layWt_ok.call (fun k => by
 refine (smwaits_fun startsB s t P0 P1 k).trans ?_
 have hl := h.el
 have e1 : (60 :: 47 :: s.el : Bs).length = s.el.length + 2 := rfl
 simp only [e1, dT (show 2 + s.el.length ≤ 4611686018427387904 by omega), dT (show s.el.length + 2 ≤ 1048576 by omega), dT (show t.length ≤ 1048576 by omega), Bool.and_self, cond_true, bif_or, bif_and]
 rfl)
noncomputable def waitsX : List AVal → Bs → Bool := fun x t => waitsB (decSS x) t
theorem waitsX_enc (s : SS) (t : Bs) : waitsX (encSS s) t = waitsB s t := by unfold waitsX; rw [decSS_enc]
theorem wtTold_ok : ∀ xs H k out, wtTold waitsX xs H k = some out → ∃ o, CallOK Tryz.prog 93 xs H o ∧ k o = some out := mkF_ok fun a ha => by
 obtain ⟨⟨P0, P1, x⟩, t⟩ := a
 obtain ⟨⟨h1, h2⟩, h3⟩ := ha
 simp only at h1 h2 h3
 obtain ⟨s, rfl⟩ := isS_get h1
 rw [decSS_enc] at h2
 refine ⟨_, fun k => rfl, ?_⟩
 show CallOK _ _ _ _ (.ret (.bool (waitsX (encSS s) t)) [P0, P1, .var (encSS s)])
 rw [waitsX_enc]
 exact mwaits_ok P0 P1 s t h2 h3
theorem layPl_okZ : (layPlZ subX flushX charX).OK Tryz.prog := ((Lay.nil_ok.addF mxSub_ok).addF m0Flush_ok).addF mcChar_ok
theorem mplain_ok (s : SS) (c : UInt8) (h : OkM s) (_ : True) : CallOK Tryz.prog 92 [.ptr (.hp 2) 0, .int .u8 c.toNat] [P0, P1, .var (encSS s)] (scOut P0 P1 (plainS oneP unfM s c)) := layPl_okZ.call (fun k => by
 refine (smplain_fun subX flushX charX s c P0 P1 k).trans ?_
 have ef : flushX (encSS s) = flushS s := flushX_enc s
 simp only [okc_u8, ek60, byteOf0]
 unfold plainS
 cases c == 60 with
 | true =>
  cases s.k == 17 with
  | true =>
   refine Eq.trans ?_ (call_then P0 P1 (p := OkR (encSS s) ∧ SubL [AVal.ptr (Oid.hp 2) 0] [AVal.ptr (Oid.hp 2) 0] ∧ eqH P0 P1 (encSS s)) ⟨OkR_enc h, .refl _, rfl⟩ (flushS s) (fun s => sOk { s with pe := [60] }) _ k (fun _ => rfl))
   rw [← ef]
   rfl
  | false => rfl
 | false =>
  cases s.k == 17 with
  | true => exact (call_tail P0 P1 ⟨⟨⟨OkR_enc h, trivial⟩, by trivial⟩, .refl _, rfl⟩ (charX (encSS s) c.toNat) k).trans (congrArg (fun r => k (scOut P0 P1 r)) (charX_enc s c))
  | false => exact (call_tail P0 P1 ⟨⟨OkR_enc h, by omega⟩, .refl _, rfl⟩ (subX (encSS s) [c]) k).trans (congrArg (fun r => k (scOut P0 P1 r)) (subX_enc s [c])))
noncomputable def plainX : FC := fun x n => plainS oneP unfM (decSS x) (u8 n)
theorem plainX_enc (s : SS) (c : UInt8) : plainX (encSS s) c.toNat = plainS oneP unfM s c := by unfold plainX; rw [decSS_enc, u8_back]
theorem mcPlain_ok : ∀ xs H k out, mcTold okT plainX xs H k = some out → ∃ o, CallOK Tryz.prog 92 xs H o ∧ k o = some out := mcTold_ok (ok := fun _ => True) mplain_ok
theorem layRw_ok : (layRw blankR subX waitsX plainX tagX).OK Tryz.prog := ((((Lay.nil_ok.addF blankT_ok).addF mxSub_ok).addF wtTold_ok).addF mcPlain_ok).addF mcTag_ok
theorem mraw_ok (s : SS) (c : UInt8) (h : OkM s) (he : s.el.length ≤ 900) : CallOK Tryz.prog 58 [.ptr (.hp 2) 0, .int .u8 c.toNat] [P0, P1, .var (encSS s)] (scOut P0 P1 (rawS oneP unfM s c)) := layRw_ok.call (fun k => by
 refine (smraw_fun blankR subX waitsX plainX tagX s c P0 P1 k).trans ?_
 have hp := h.pe
 have hl := h.el
 have h0 : OkM { s with pe := [] } := ⟨h.el, h.ar, by simp, h.rf, h.pw⟩
 have ht : OkM { ss0 with k := 4, el := 47 :: s.el } := ⟨by show (47 :: s.el : Bs).length ≤ 1000; rw [List.length_cons]; omega, ok_ss0.ar, ok_ss0.pe, ok_ss0.rf, ok_ss0.pw⟩
 have w1 : IntKind.i64.wrap ((s.el.length : Int) + 2) = (s.el.length : Int) + 2 := wrap_of (by omega) (by omega)
 have ew : waitsX (cells0H [P0, P1, Obj.var (encSS s)]) (s.pe ++ [c]) = waitsB s (s.pe ++ [c]) := waitsX_enc s _
 have ea : List.append s.pe [c] = s.pe ++ [c] := rfl
 have la : (s.pe ++ [c]).length = s.pe.length + 1 := by rw [List.length_append]; rfl
 have el : ((s.pe.length : Int) == (s.el.length : Int) + 2) = (s.pe.length == s.el.length + 2) := by rw [Bool.eq_iff_iff, beq_iff_eq, beq_iff_eq]; omega
 simp only [okc_u8, blankR_u8, ek47, ek62, byteOf0, ea, w1, ew, el, eqk (s.pe.getD 1 0) 47 (n := 47) rfl, dT (show s.pe.length + 1 ≤ 4611686018427387904 by omega), dT (show 1 + s.el.length ≤ 4611686018427387904 by omega), cond_true, bif_or, bif_and]
 have hs' := sub_okM h0 s.pe
 have fin := call_then P0 P1 (p := (OkR (encSS { s with pe := [] }) ∧ s.pe.length ≤ 1048576) ∧ SubL [AVal.ptr (Oid.hp 2) 0, AVal.str s.pe] [AVal.ptr (Oid.hp 2) 0, AVal.str s.pe] ∧ eqH P0 P1 (encSS { s with pe := [] })) ⟨⟨OkR_enc h0, by omega⟩, .refl _, rfl⟩ (subS { s with pe := [] } s.pe) (fun s => plainS oneP unfM s c) _ k (fun _ => (call_tail P0 P1 (p := ((OkR (encSS (subS { s with pe := [] } s.pe).s) ∧ okT (encSS (subS { s with pe := [] } s.pe).s)) ∧ True) ∧ SubL [AVal.ptr (Oid.hp 2) 0, AVal.int .u8 c.toNat] [AVal.ptr (Oid.hp 2) 0, AVal.int .u8 c.toNat] ∧ eqH P0 P1 (encSS (subS { s with pe := [] } s.pe).s)) ⟨⟨⟨OkR_enc hs', trivial⟩, trivial⟩, .refl _, rfl⟩ (plainX (encSS (subS { s with pe := [] } s.pe).s) c.toNat) k).trans (congrArg (fun r => k (scOut P0 P1 r)) (plainX_enc _ c)))
 rw [← subX_enc { s with pe := [] } s.pe] at fin
 unfold rawS
 rw [← subX_enc { s with pe := [] } s.pe]
 cases s.pe == [] with
 | true => exact (call_tail P0 P1 ⟨⟨⟨OkR_enc h, trivial⟩, by trivial⟩, .refl _, rfl⟩ (plainX (encSS s) c.toNat) k).trans (congrArg (fun r => k (scOut P0 P1 r)) (plainX_enc s c))
 | false =>
  refine (congrArg (fun c => cond c _ none) (tst_true ⟨⟨OkR_enc h, by rw [la]; omega⟩, .refl _, rfl⟩)).trans ((cond_true _ _).trans ?_)
  cases waitsB s (s.pe ++ [c]) with
  | true =>
   simp only [bne]
   cases (s.pe ++ [c] == [60, 33, 45, 45]) <;> rfl
  | false =>
   cases hlen : s.pe.length == s.el.length + 2 with
   | true =>
    have h2 : s.pe.length = s.el.length + 2 := by simpa using hlen
    simp only [dT (show (1 : Int) < (s.pe.length : Int) by omega), Bool.true_or, cond_true, cond_false, Bool.true_and]
    cases s.pe.getD 1 0 == 47 && (blankB c || c == 47 || c == 62) with
    | true => exact (call_tail P0 P1 ⟨⟨⟨OkR_enc ht, trivial⟩, by trivial⟩, .refl _, rfl⟩ (tagX (encSS { ss0 with k := 4, el := 47 :: s.el }) c.toNat) k).trans (congrArg (fun r => k (scOut P0 P1 r)) (tagX_enc _ c))
    | false => exact fin
   | false =>
    simp only [Bool.not_false, Bool.or_true, cond_true, cond_false, Bool.false_and]
    exact fin)
noncomputable def rawX : FC := fun x n => rawS oneP unfM (decSS x) (u8 n)
theorem rawX_enc (s : SS) (c : UInt8) : rawX (encSS s) c.toNat = rawS oneP unfM s c := by unfold rawX; rw [decSS_enc, u8_back]
theorem mcRaw_ok : ∀ xs H k out, mcTold okEZ rawX xs H k = some out → ∃ o, CallOK Tryz.prog 58 xs H o ∧ k o = some out := mcTold_ok (ok := fun s => s.el.length ≤ 900) mraw_ok
end Go.Mu
namespace Go.Mu
open Go Go.Proofs
noncomputable def layStp0 (M : List AVal → Int) (F : FC) : Lay := (Lay.nil.addF 14 (ksTold M)).addF 27 (mcTold okEZ F)
noncomputable def layStp (M : List AVal → Int) (F : FC) : Lay := (layStp0 M F).addL 15 { heap := [4, 5, 17] }
theorem stp_fun (M : List AVal → Int) (F : FC) (s : SS) (c : UInt8) (k : Out → Ans) : iFun Tryz.prog ((layStp M F).hd Tryz.prog) (layStp M F).fhs 0 15 [.agg (encSS s), .int .u8 c.toNat] [] k = (
 let z1 := [AVal.int .i64 s.k, AVal.str s.el, AVal.str s.ar, AVal.int .u8 (↑s.dl.toNat : Int), AVal.str s.pe, AVal.str s.rf, AVal.int .i64 s.pt, AVal.str s.wd];
 let n0 : Int := M (cellsG (AVal.agg z1));
 let n1 : Int := (↑c.toNat : Int);
 let z2 := [AVal.int .i64 0, AVal.str [], AVal.str [], AVal.int .u8 0, AVal.str [], AVal.str [], AVal.int .i64 0, AVal.str []];
 let z0 := [Obj.var z2, Obj.var [AVal.int .i64 0], Obj.var z1];
 let n2 : Int := (F (cells0H z0) n1).e;
 let z3 := [AVal.int .i64 (F (cells0H z0) n1).s.k, AVal.str (F (cells0H z0) n1).s.el, AVal.str (F (cells0H z0) n1).s.ar, AVal.int .u8 (↑(F (cells0H z0) n1).s.dl.toNat : Int), AVal.str (F (cells0H z0) n1).s.pe, AVal.str (F (cells0H z0) n1).s.rf, AVal.int .i64 (F (cells0H z0) n1).s.pt, AVal.str (F (cells0H z0) n1).s.wd];
 let z4 := [AVal.ptr (Oid.hp 2) 0, AVal.int .u8 n1];
  bif tst (isS (cellsG (AVal.agg z1)) ∧ SubL [AVal.agg z1] [AVal.agg (cellsG (AVal.agg z1))] ∧ ([] : Heap) = []) then bif n0 != 0 then k (Out.ret (AVal.tuple [AVal.agg z2, AVal.int .i64 n0]) [Obj.var z2, Obj.var [AVal.int .i64 n0]]) else bif tst (((OkR (cells0H z0) ∧ okEZ (cells0H z0)) ∧ okc n1 = true) ∧ SubL z4 z4 ∧ z0 = [p0H z0, p1H z0, Obj.var (cells0H z0)]) then bif n2 == 0 then k (Out.ret (AVal.tuple [AVal.agg z3, AVal.int .i64 0]) [Obj.var z3, Obj.var [AVal.int .i64 0], Obj.var (encSS (F (cells0H z0) n1).s)]) else k (Out.ret (AVal.tuple [AVal.agg z2, AVal.int .i64 n2]) [Obj.var z2, Obj.var [AVal.int .i64 n2], Obj.var (encSS (F (cells0H z0) n1).s)]) else none else none) := by kernel_rfl
noncomputable def sgTold (F : List AVal → Int → SS × Int) : FSp := mkF (fun xs H => (cellsG (xs.getD 0 .undef), aI xs 1)) (fun a => isS a.1 ∧ okc a.2 = true) (fun a => [.agg a.1, .int .u8 a.2]) (fun _ => []) (fun a k => k (.ret (.tuple [.agg (encSS (F a.1 a.2).1), .int .i64 (F a.1 a.2).2]) []))
abbrev FdR := List AVal → Bs → SS × Nat × Int
structure FmA where
 t : Bs
 x : List AVal
 i : Nat
 H : Heap
noncomputable def fmSp (R : FdR) : LSp := mkL (fun vs bs H => FmA.mk (aS vs 0) (bs.getD 0 []) (aI vs 4).toNat H) (fun a => isS a.x ∧ a.i = 0 ∧ a.t.length ≤ 1099511627776) (fun a => [.str a.t, .ptr (.tmp 2) 0, .ptr (.tmp 4) 0, .int .i64 a.t.length, .int .i64 (a.i : Nat)]) (fun a => [a.x, encSS ss0]) (fun a => a.H)
 (fun a k => cond ((R a.x a.t).2.2 != 0) (k .ret [.str a.t, .ptr (.tmp 2) 0, .ptr (.tmp 4) 0, .int .i64 ((R a.x a.t).2.1 : Nat), .int .i64 (R a.x a.t).2.2] [encSS (R a.x a.t).1, encSS ss0] a.H) (k (.exit 0) [.str a.t, .ptr (.tmp 2) 0, .ptr (.tmp 4) 0, .undef, .undef] [encSS (R a.x a.t).1, encSS ss0] a.H))
noncomputable def fmFH (R : FdR) : FH := .of [(5, loopSpec 38 [1,2,4,17,18] [2,4] [1,2,4,5,6] [2,4] (fmSp R))]
noncomputable def layFm0 (M : List AVal → Int) (F : List AVal → Int → SS × Int) : Lay := (Lay.nil.addF 14 (ksTold M)).addF 15 (sgTold F)
theorem fm_step (M : List AVal → Int) (F : List AVal → Int → SS × Int) (R : FdR) (t : Bs) (s : SS) (n i : Int) (H : Heap) (D : List (FuncId × List AVal)) (k : Kont) : lturn Tryz.prog (layFm0 M F) (fmFH R) 5 5 [1,2,4,17,18] [2,4] [1,2,4,5,6] [2,4] (stL 38 [1,2,4,17,18] [.str t, .ptr (.tmp 2) 0, .ptr (.tmp 4) 0, .int .i64 n, .int .i64 i] [2,4] [encSS s, encSS ss0] H D) k = (
 let n0 : Int := (↑(List.getD t i.toNat 0).toNat : Int);
 let z2 := [AVal.int .i64 s.k, AVal.str s.el, AVal.str s.ar, AVal.int .u8 (↑s.dl.toNat : Int), AVal.str s.pe, AVal.str s.rf, AVal.int .i64 s.pt, AVal.str s.wd];
 let z0 := cellsG (AVal.agg z2);
 let n1 : Int := (F z0 n0).snd;
 let z3 := [AVal.int .i64 0, AVal.str [], AVal.str [], AVal.int .u8 0, AVal.str [], AVal.str [], AVal.int .i64 0, AVal.str []];
 let z1 := [[AVal.int .i64 (F z0 n0).fst.k, AVal.str (F z0 n0).fst.el, AVal.str (F z0 n0).fst.ar, AVal.int .u8 (↑(F z0 n0).fst.dl.toNat : Int), AVal.str (F z0 n0).fst.pe, AVal.str (F z0 n0).fst.rf, AVal.int .i64 (F z0 n0).fst.pt, AVal.str (F z0 n0).fst.wd], z3];
  bif decide (i < n) then bif decide (0 ≤ i) && decide (i < (↑(List.length t) : Int)) then bif tst ((isS z0 ∧ okc n0 = true) ∧ SubL [AVal.agg z2, AVal.int .u8 n0] [AVal.agg z0, AVal.int .u8 n0] ∧ ([] : Heap) = []) then bif n1 != 0 then k AExit.ret (stL 38 [1, 2, 4, 5, 6] [AVal.str t, AVal.ptr (Oid.tmp 2) 0, AVal.ptr (Oid.tmp 4) 0, AVal.int .i64 i, AVal.int .i64 n1] [2, 4] z1 H D) else k AExit.normal (stL 38 [1, 2, 4, 17, 18] [AVal.str t, AVal.ptr (Oid.tmp 2) 0, AVal.ptr (Oid.tmp 4) 0, AVal.int .i64 n, AVal.int .i64 (IntKind.i64.wrap (i + 1))] [2, 4] z1 H D) else none else none else k (AExit.exit 0) (stL 38 [1, 2, 4, 5, 6] [AVal.str t, AVal.ptr (Oid.tmp 2) 0, AVal.ptr (Oid.tmp 4) 0, AVal.undef, AVal.undef] [2, 4] [z2, z3] H D)) := by kernel_rfl
noncomputable def layFm (M : List AVal → Int) (F : List AVal → Int → SS × Int) (R : FdR) : Lay := (layFm0 M F).addL 5 (fmFH R)
theorem fm_fun (M : List AVal → Int) (F : List AVal → Int → SS × Int) (R : FdR) (s : SS) (t : Bs) (k : Out → Ans) : iFun Tryz.prog ((layFm M F R).hd Tryz.prog) (layFm M F R).fhs 0 5 [.agg (encSS s), .str t] [] k = (
 let z0 := [AVal.int .i64 s.k, AVal.str s.el, AVal.str s.ar, AVal.int .u8 (↑s.dl.toNat : Int), AVal.str s.pe, AVal.str s.rf, AVal.int .i64 s.pt, AVal.str s.wd];
 let n0 : Int := M (cellsG (AVal.agg z0));
 let n1 : Int := (R z0 t).snd.snd;
 let z1 := [AVal.int .i64 0, AVal.str [], AVal.str [], AVal.int .u8 0, AVal.str [], AVal.str [], AVal.int .i64 0, AVal.str []];
  bif tst (isS (cellsG (AVal.agg z0)) ∧ SubL [AVal.agg z0] [AVal.agg (cellsG (AVal.agg z0))] ∧ ([] : Heap) = []) then bif n0 != 0 then k (Out.ret (AVal.tuple [AVal.agg z1, AVal.int .i64 0, AVal.int .i64 n0]) []) else bif tst ((isS z0 ∧ Int.toNat 0 = 0 ∧ List.length t ≤ 1099511627776) ∧ SubTL [AVal.str t, AVal.ptr (Oid.tmp 2) 0, AVal.ptr (Oid.tmp 4) 0, AVal.int .i64 (↑(List.length t) : Int), AVal.int .i64 0] [AVal.str t, AVal.ptr (Oid.tmp 2) 0, AVal.ptr (Oid.tmp 4) 0, AVal.int .i64 (↑(List.length t) : Int), AVal.int .i64 (↑(Int.toNat 0) : Int)] ∧ [z0, z1] = [z0, encSS (SS.mk 0 [] [] 0 [] [] 0 [])] ∧ ([] : Heap) = []) then bif n1 != 0 then k (Out.ret (AVal.tuple [AVal.agg z1, AVal.int .i64 (↑(R z0 t).snd.fst : Int), AVal.int .i64 n1]) []) else k (Out.ret (AVal.tuple [AVal.agg [AVal.int .i64 (R z0 t).fst.k, AVal.str (R z0 t).fst.el, AVal.str (R z0 t).fst.ar, AVal.int .u8 (↑(R z0 t).fst.dl.toNat : Int), AVal.str (R z0 t).fst.pe, AVal.str (R z0 t).fst.rf, AVal.int .i64 (R z0 t).fst.pt, AVal.str (R z0 t).fst.wd], AVal.int .i64 (↑(List.length t) : Int), AVal.int .i64 0]) []) else none else none) := by kernel_rfl
end Go.Mu
namespace Go.Mu
open Go Go.Proofs
theorem c0v (P0 P1 : Obj) (x : List AVal) : cells0H [P0, P1, Obj.var x] = x := rfl
theorem cGv (x : List AVal) : cellsG (.agg x) = x := rfl
theorem p0v (P0 P1 : Obj) (x : List AVal) : p0H [P0, P1, Obj.var x] = P0 := rfl
theorem p1v (P0 P1 : Obj) (x : List AVal) : p1H [P0, P1, Obj.var x] = P1 := rfl
theorem ef (a : Int) (b c : Bs) (d : UInt8) (e f : Bs) (g : Int) (h : Bs) : [AVal.int .i64 a, .str b, .str c, .int .u8 (d.toNat : Int), .str e, .str f, .int .i64 g, .str h] = encSS ⟨a, b, c, d, e, f, g, h⟩ := rfl
theorem ef0 (a : Int) (b c : Bs) (e f : Bs) (g : Int) (h : Bs) : [AVal.int .i64 a, .str b, .str c, .int .u8 0, .str e, .str f, .int .i64 g, .str h] = encSS ⟨a, b, c, 0, e, f, g, h⟩ := rfl
theorem ssEta (s : SS) : (⟨s.k, s.el, s.ar, s.dl, s.pe, s.rf, s.pt, s.wd⟩ : SS) = s := rfl
theorem ss0v : (⟨0, [], [], 0, [], [], 0, []⟩ : SS) = ss0 := rfl
theorem mark_ok {s : SS} (h : markE s = 0) : OkM s ∧ s.el.length ≤ 33 := by
 unfold markE at h
 cases h1 : inB s 0 19 with
 | false => rw [h1] at h; exact absurd h (show ¬ (4 : Int) = 0 by decide)
 | true =>
  rw [h1] at h
  cases h2 : markOk s with
  | false => rw [h2] at h; exact absurd h (show ¬ (9 : Int) = 0 by decide)
  | true =>
   unfold markOk at h2
   simp only [Bool.and_eq_true, decide_eq_true_eq] at h2
   obtain ⟨⟨⟨⟨⟨⟨⟨⟨⟨⟨⟨⟨⟨a1, a2⟩, a3⟩, a4⟩, a5⟩, a6⟩, a7⟩, _⟩, _⟩, _⟩, _⟩, _⟩, _⟩, _⟩ := h2
   exact ⟨⟨by omega, by omega, by omega, by omega, ⟨a6, a7, a5⟩⟩, a1⟩
section
variable {F : SS → UInt8 → ScR} {FX : FC}
theorem stp_of (hF : ∀ s c, FX (encSS s) c.toNat = F s c) (hT : ∀ xs H k out, mcTold okEZ FX xs H k = some out → ∃ o, CallOK Tryz.prog 27 xs H o ∧ k o = some out) (s : SS) (c : UInt8) :
 CallOK Tryz.prog 15 [.agg (encSS s), .int .u8 c.toNat] [] (.ret (.tuple [.agg (encSS (bif markE s != 0 then (ss0, markE s) else bif (F s c).e == 0 then ((F s c).s, 0) else (ss0, (F s c).e)).1), .int .i64 (bif markE s != 0 then (ss0, markE s) else bif (F s c).e == 0 then ((F s c).s, 0) else (ss0, (F s c).e)).2]) []) := by
 have hL : (layStp markR FX).OK Tryz.prog := ((Lay.nil_ok.addF markTold_ok).addF hT).addN (by kernel_rfl)
 have key := fun k => stp_fun markR FX s c k
 simp only [c0v, cGv, p0v, p1v, ef0, ef, ssEta, ss0v, hF, markR_enc, tstS, cond_true, okc_u8] at key
 cases hm : markE s != 0 with
 | true =>
  simp only [hm, cond_true] at key ⊢
  exact CallOK.shrink (H := []) (H' := []) (G := [.var (encSS ss0), .var [.int .i64 (markE s)]]) (hL.call key) (Nat.le_refl _) rfl (fun x hx => by cases hx)
 | false =>
  have hm0 : markE s = 0 := by simpa using hm
  obtain ⟨ho, hl⟩ := mark_ok hm0
  have hE : okEZ (encSS s) := by unfold okEZ; rw [decSS_enc]; omega
  simp only [hm, cond_false] at key ⊢
  have key2 : ∀ k, iFun Tryz.prog ((layStp markR FX).hd Tryz.prog) (layStp markR FX).fhs 0 15 [.agg (encSS s), .int .u8 c.toNat] [] k = _ := fun k => (key k).trans ((congrArg (fun c => cond c _ none) (tst_true ⟨⟨⟨OkR_enc ho, hE⟩, trivial⟩, .refl _, trivial⟩)).trans (cond_true _ _))
  clear key
  cases he : (F s c).e == 0 with
  | true =>
   simp only [he, cond_true] at key2 ⊢
   exact CallOK.shrink (H := []) (H' := []) (G := [.var (encSS (F s c).s), .var [.int .i64 0], .var (encSS (F s c).s)]) (hL.call key2) (Nat.le_refl _) rfl (fun x hx => by cases hx)
  | false =>
   simp only [he, cond_false] at key2 ⊢
   exact CallOK.shrink (H := []) (H' := []) (G := [.var (encSS ss0), .var [.int .i64 (F s c).e], .var (encSS (F s c).s)]) (hL.call key2) (Nat.le_refl _) rfl (fun x hx => by cases hx)
end
end Go.Mu
namespace Go.Mu
open Go Go.Proofs
theorem smstep_fun (C Bg BE T W A Wa V Re Ra : FC) (s : SS) (c : UInt8) (P0 P1 : Obj) (k : Out → Ans) : iFun Tryz.prog ((layS1Z C Bg BE T W A Wa V Re Ra).hd Tryz.prog) (layS1Z C Bg BE T W A Wa V Re Ra).fhs 0 27 [.ptr (.hp 2) 0, .int .u8 c.toNat] [P0, P1, .var (encSS s)] k = (
 let n0 : Int := (↑c.toNat : Int);
 let z3 := cells0H [P0, P1, Obj.var (encSS s)];
 let z10 := [AVal.ptr (Oid.hp 2) 0, AVal.int .u8 n0];
 let z21 := [p0H [P0, P1, Obj.var (encSS s)], p1H [P0, P1, Obj.var (encSS s)], Obj.var z3];
 let c1 : Bool := tst (((OkR z3 ∧ okT z3) ∧ okc n0 = true) ∧ SubL z10 z10 ∧ [P0, P1, Obj.var (encSS s)] = z21);
 let n2 : Int := (C z3 n0).e;
 let n3 : Int := (Bg z3 n0).e;
 let n4 : Int := (BE z3 n0).e;
 let c5 : Bool := s.k == 3;
 let n6 : Int := (T z3 n0).e;
 let c7 : Bool := s.k == 5;
 let n8 : Int := (W z3 n0).e;
 let c9 : Bool := s.k == 6;
 let n10 : Int := (A z3 n0).e;
 let n11 : Int := (Wa z3 n0).e;
 let c12 : Bool := s.k == 9;
 let n13 : Int := (V z3 n0).e;
 let c14 : Bool := s.k == 13;
 let n15 : Int := (Re z3 n0).e;
 let n16 : Int := (Ra z3 n0).e;
 let c17 : Bool := s.k == 14;
 let z11 := [p0H [P0, P1, Obj.var (encSS s)], p1H [P0, P1, Obj.var (encSS s)], Obj.var (encSS (Ra z3 n0).s)];
 let z1 := bif s.k == 15 then bif n0 == 62 then k (Out.ret (AVal.tuple []) [P0, P1, Obj.var [AVal.int .i64 0, AVal.str [], AVal.str [], AVal.int .u8 0, AVal.str [], AVal.str [], AVal.int .i64 0, AVal.str []]]) else k (Out.ret (AVal.tuple []) [P0, P1, Obj.var (encSS s)]) else bif tst (((OkR z3 ∧ okEZ z3) ∧ okc n0 = true) ∧ SubL z10 z10 ∧ [P0, P1, Obj.var (encSS s)] = z21) then bif n16 == 0 then k (Out.ret (AVal.tuple []) z11) else k (Out.panic (errV n16) z11) else none;
 let z12 := [p0H [P0, P1, Obj.var (encSS s)], p1H [P0, P1, Obj.var (encSS s)], Obj.var (encSS (Re z3 n0).s)];
 let z4 := bif c1 then bif n15 == 0 then k (Out.ret (AVal.tuple []) z12) else k (Out.panic (errV n15) z12) else none;
 let z16 := [p0H [P0, P1, Obj.var (encSS s)], p1H [P0, P1, Obj.var (encSS s)], Obj.var (encSS (W z3 n0).s)];
 let z5 := bif c1 then bif n8 == 0 then k (Out.ret (AVal.tuple []) z16) else k (Out.panic (errV n8) z16) else none;
 let z17 := [p0H [P0, P1, Obj.var (encSS s)], p1H [P0, P1, Obj.var (encSS s)], Obj.var (encSS (V z3 n0).s)];
 let z6 := bif c1 then bif n13 == 0 then k (Out.ret (AVal.tuple []) z17) else k (Out.panic (errV n13) z17) else none;
 let z9 := bif s.k == 12 then z5 else bif c14 then bif c14 then z4 else z1 else bif c17 then bif c17 then z4 else z1 else bif s.k == 16 then z4 else z1;
 let z13 := [p0H [P0, P1, Obj.var (encSS s)], p1H [P0, P1, Obj.var (encSS s)], Obj.var (encSS (Wa z3 n0).s)];
 let z0 := bif s.k == 8 then bif c1 then bif n11 == 0 then k (Out.ret (AVal.tuple []) z13) else k (Out.panic (errV n11) z13) else none else bif c12 then bif c12 then z6 else z9 else bif s.k == 10 then z6 else z9;
 let z18 := [p0H [P0, P1, Obj.var (encSS s)], p1H [P0, P1, Obj.var (encSS s)], Obj.var (encSS (A z3 n0).s)];
 let z2 := bif c1 then bif n10 == 0 then k (Out.ret (AVal.tuple []) z18) else k (Out.panic (errV n10) z18) else none;
 let z19 := [p0H [P0, P1, Obj.var (encSS s)], p1H [P0, P1, Obj.var (encSS s)], Obj.var (encSS (T z3 n0).s)];
 let z7 := bif c1 then bif n6 == 0 then k (Out.ret (AVal.tuple []) z19) else k (Out.panic (errV n6) z19) else none;
 let z22 := bif c9 then bif c9 then z2 else z0 else bif s.k == 7 then z2 else z0;
 let z8 := bif c7 then bif c7 then z5 else z22 else bif s.k == 11 then z5 else z22;
 let z14 := [p0H [P0, P1, Obj.var (encSS s)], p1H [P0, P1, Obj.var (encSS s)], Obj.var (encSS (Bg z3 n0).s)];
 let z15 := [p0H [P0, P1, Obj.var (encSS s)], p1H [P0, P1, Obj.var (encSS s)], Obj.var (encSS (BE z3 n0).s)];
 let z20 := [p0H [P0, P1, Obj.var (encSS s)], p1H [P0, P1, Obj.var (encSS s)], Obj.var (encSS (C z3 n0).s)];
  bif s.k == 0 then bif n0 == 60 then k (Out.ret (AVal.tuple []) [P0, P1, Obj.var [AVal.int .i64 1, AVal.str [], AVal.str [], AVal.int .u8 0, AVal.str [], AVal.str [], AVal.int .i64 0, AVal.str []]]) else bif c1 then bif n2 == 0 then k (Out.ret (AVal.tuple []) z20) else k (Out.panic (errV n2) z20) else none else bif s.k == 1 then bif c1 then bif n3 == 0 then k (Out.ret (AVal.tuple []) z14) else k (Out.panic (errV n3) z14) else none else bif s.k == 2 then bif c1 then bif n4 == 0 then k (Out.ret (AVal.tuple []) z15) else k (Out.panic (errV n4) z15) else none else bif c5 then bif c5 then z7 else z8 else bif s.k == 4 then z7 else z8) := by kernel_rfl
end Go.Mu
namespace Go.Mu
open Go Go.Proofs
variable (P0 P1 : Obj)
theorem layS1_okZ : (layS1Z charX beginX beginEX tagX withinX attrX wantX valX remX rawX).OK Tryz.prog := (((((((((Lay.nil_ok.addF mcChar_ok).addF mcBegin_ok).addF mcBeginE_ok).addF mcTag_ok).addF mcWithin_ok).addF mcAttr_ok).addF mcWant_ok).addF mcVal_ok).addF mcRem_ok).addF mcRaw_ok
theorem mstep_ok (s : SS) (c : UInt8) (h : OkM s) (he : s.el.length ≤ 900) : CallOK Tryz.prog 27 [.ptr (.hp 2) 0, .int .u8 c.toNat] [P0, P1, .var (encSS s)] (scOut P0 P1 (stepS oneP unfM s c)) := layS1_okZ.call (fun k => by
 obtain ⟨sk, el, ar, dl, pe, rf, pt, wd⟩ := s
 refine (smstep_fun charX beginX beginEX tagX withinX attrX wantX valX remX rawX _ c P0 P1 k).trans ?_
 by_cases h0 : sk = 0
 · subst h0
   have e60 := ek60 c
   show (bif (c.toNat : Int) == 60 then _ else _) = k (scOut P0 P1 (bif c == 60 then sOk { ss0 with k := 1 } else charS oneP unfM ⟨0, el, ar, dl, pe, rf, pt, wd⟩ c))
   rw [e60]
   cases c == 60 with
   | true => rfl
   | false => exact (call_tail P0 P1 ⟨⟨⟨OkR_enc h, trivial⟩, okc_u8 c⟩, .refl _, rfl⟩ (charX (encSS ⟨0, el, ar, dl, pe, rf, pt, wd⟩) c.toNat) k).trans (congrArg (fun r => k (scOut P0 P1 r)) (charX_enc _ c))
 by_cases h1 : sk = 1
 · subst h1
   exact (call_tail P0 P1 ⟨⟨⟨OkR_enc h, trivial⟩, okc_u8 c⟩, .refl _, rfl⟩ (beginX (encSS ⟨1, el, ar, dl, pe, rf, pt, wd⟩) c.toNat) k).trans (congrArg (fun r => k (scOut P0 P1 r)) (beginX_enc _ c))
 by_cases h2 : sk = 2
 · subst h2
   exact (call_tail P0 P1 ⟨⟨⟨OkR_enc h, trivial⟩, okc_u8 c⟩, .refl _, rfl⟩ (beginEX (encSS ⟨2, el, ar, dl, pe, rf, pt, wd⟩) c.toNat) k).trans (congrArg (fun r => k (scOut P0 P1 r)) (beginEX_enc _ c))
 by_cases h3 : sk = 3
 · subst h3
   exact (call_tail P0 P1 ⟨⟨⟨OkR_enc h, trivial⟩, okc_u8 c⟩, .refl _, rfl⟩ (tagX (encSS ⟨3, el, ar, dl, pe, rf, pt, wd⟩) c.toNat) k).trans (congrArg (fun r => k (scOut P0 P1 r)) (tagX_enc _ c))
 by_cases h4 : sk = 4
 · subst h4
   exact (call_tail P0 P1 ⟨⟨⟨OkR_enc h, trivial⟩, okc_u8 c⟩, .refl _, rfl⟩ (tagX (encSS ⟨4, el, ar, dl, pe, rf, pt, wd⟩) c.toNat) k).trans (congrArg (fun r => k (scOut P0 P1 r)) (tagX_enc _ c))
 by_cases h5 : sk = 5
 · subst h5
   exact (call_tail P0 P1 ⟨⟨⟨OkR_enc h, trivial⟩, okc_u8 c⟩, .refl _, rfl⟩ (withinX (encSS ⟨5, el, ar, dl, pe, rf, pt, wd⟩) c.toNat) k).trans (congrArg (fun r => k (scOut P0 P1 r)) (withinX_enc _ c))
 by_cases h6 : sk = 6
 · subst h6
   exact (call_tail P0 P1 ⟨⟨⟨OkR_enc h, trivial⟩, okc_u8 c⟩, .refl _, rfl⟩ (attrX (encSS ⟨6, el, ar, dl, pe, rf, pt, wd⟩) c.toNat) k).trans (congrArg (fun r => k (scOut P0 P1 r)) (attrX_enc _ c))
 by_cases h7 : sk = 7
 · subst h7
   exact (call_tail P0 P1 ⟨⟨⟨OkR_enc h, trivial⟩, okc_u8 c⟩, .refl _, rfl⟩ (attrX (encSS ⟨7, el, ar, dl, pe, rf, pt, wd⟩) c.toNat) k).trans (congrArg (fun r => k (scOut P0 P1 r)) (attrX_enc _ c))
 by_cases h8 : sk = 8
 · subst h8
   exact (call_tail P0 P1 ⟨⟨⟨OkR_enc h, trivial⟩, okc_u8 c⟩, .refl _, rfl⟩ (wantX (encSS ⟨8, el, ar, dl, pe, rf, pt, wd⟩) c.toNat) k).trans (congrArg (fun r => k (scOut P0 P1 r)) (wantX_enc _ c))
 by_cases h9 : sk = 9
 · subst h9
   exact (call_tail P0 P1 ⟨⟨⟨OkR_enc h, trivial⟩, okc_u8 c⟩, .refl _, rfl⟩ (valX (encSS ⟨9, el, ar, dl, pe, rf, pt, wd⟩) c.toNat) k).trans (congrArg (fun r => k (scOut P0 P1 r)) (valX_enc _ c))
 by_cases h10 : sk = 10
 · subst h10
   exact (call_tail P0 P1 ⟨⟨⟨OkR_enc h, trivial⟩, okc_u8 c⟩, .refl _, rfl⟩ (valX (encSS ⟨10, el, ar, dl, pe, rf, pt, wd⟩) c.toNat) k).trans (congrArg (fun r => k (scOut P0 P1 r)) (valX_enc _ c))
 by_cases h11 : sk = 11
 · subst h11
   exact (call_tail P0 P1 ⟨⟨⟨OkR_enc h, trivial⟩, okc_u8 c⟩, .refl _, rfl⟩ (withinX (encSS ⟨11, el, ar, dl, pe, rf, pt, wd⟩) c.toNat) k).trans (congrArg (fun r => k (scOut P0 P1 r)) (withinX_enc _ c))
 by_cases h12 : sk = 12
 · subst h12
   exact (call_tail P0 P1 ⟨⟨⟨OkR_enc h, trivial⟩, okc_u8 c⟩, .refl _, rfl⟩ (withinX (encSS ⟨12, el, ar, dl, pe, rf, pt, wd⟩) c.toNat) k).trans (congrArg (fun r => k (scOut P0 P1 r)) (withinX_enc _ c))
 by_cases h13 : sk = 13
 · subst h13
   exact (call_tail P0 P1 ⟨⟨⟨OkR_enc h, trivial⟩, okc_u8 c⟩, .refl _, rfl⟩ (remX (encSS ⟨13, el, ar, dl, pe, rf, pt, wd⟩) c.toNat) k).trans (congrArg (fun r => k (scOut P0 P1 r)) (remX_enc _ c))
 by_cases h14 : sk = 14
 · subst h14
   exact (call_tail P0 P1 ⟨⟨⟨OkR_enc h, trivial⟩, okc_u8 c⟩, .refl _, rfl⟩ (remX (encSS ⟨14, el, ar, dl, pe, rf, pt, wd⟩) c.toNat) k).trans (congrArg (fun r => k (scOut P0 P1 r)) (remX_enc _ c))
 by_cases h15 : sk = 15
 · subst h15
   have e62 := ek62 c
   show (bif (c.toNat : Int) == 62 then _ else _) = k (scOut P0 P1 (bif c == 62 then sOk ss0 else sOk ⟨15, el, ar, dl, pe, rf, pt, wd⟩))
   rw [e62]
   cases c == 62 <;> rfl
 by_cases h16 : sk = 16
 · subst h16
   exact (call_tail P0 P1 ⟨⟨⟨OkR_enc h, trivial⟩, okc_u8 c⟩, .refl _, rfl⟩ (remX (encSS ⟨16, el, ar, dl, pe, rf, pt, wd⟩) c.toNat) k).trans (congrArg (fun r => k (scOut P0 P1 r)) (remX_enc _ c))
 have hE : okEZ (encSS ⟨sk, el, ar, dl, pe, rf, pt, wd⟩) := by unfold okEZ; rw [decSS_enc]; exact he
 unfold stepS
 simp only [beq_f h0, beq_f h1, beq_f h2, beq_f h3, beq_f h4, beq_f h5, beq_f h6, beq_f h7, beq_f h8, beq_f h9, beq_f h10, beq_f h11, beq_f h12, beq_f h13, beq_f h14, beq_f h15, beq_f h16, cond_false, Bool.or_self]
 exact (call_tail P0 P1 ⟨⟨⟨OkR_enc h, hE⟩, okc_u8 c⟩, .refl _, rfl⟩ (rawX (encSS ⟨sk, el, ar, dl, pe, rf, pt, wd⟩) c.toNat) k).trans (congrArg (fun r => k (scOut P0 P1 r)) (rawX_enc _ c)))
noncomputable def stepX : FC := fun x n => stepS oneP unfM (decSS x) (u8 n)
theorem stepX_enc (s : SS) (c : UInt8) : stepX (encSS s) c.toNat = stepS oneP unfM s c := by unfold stepX; rw [decSS_enc, u8_back]
theorem mcStep_ok : ∀ xs H k out, mcTold okEZ stepX xs H k = some out → ∃ o, CallOK Tryz.prog 27 xs H o ∧ k o = some out := mcTold_ok (ok := fun s => s.el.length ≤ 900) mstep_ok
theorem step_ok (s : SS) (c : UInt8) : CallOK Tryz.prog 15 [.agg (encSS s), .int .u8 c.toNat] [] (.ret (.tuple [.agg (encSS (scanStep oneP unfM s c).1), .int .i64 (scanStep oneP unfM s c).2]) []) := stp_of stepX_enc mcStep_ok s c
noncomputable def stepR : List AVal → Int → SS × Int := fun x n => scanStep oneP unfM (decSS x) (u8 n)
theorem stepR_enc (s : SS) (c : UInt8) : stepR (encSS s) c.toNat = scanStep oneP unfM s c := by unfold stepR; rw [decSS_enc, u8_back]
theorem sgTold_ok : ∀ xs H k out, sgTold stepR xs H k = some out → ∃ o, CallOK Tryz.prog 15 xs H o ∧ k o = some out := mkF_ok fun a ha => by
 obtain ⟨x, n⟩ := a
 obtain ⟨h1, h2⟩ := ha
 simp only at h1 h2
 obtain ⟨s, rfl⟩ := isS_get h1
 obtain ⟨c, rfl⟩ := okc_is h2
 refine ⟨_, fun k => rfl, ?_⟩
 show CallOK _ _ _ _ (.ret (.tuple [.agg (encSS (stepR (encSS s) c.toNat).1), .int .i64 (stepR (encSS s) c.toNat).2]) [])
 rw [stepR_enc]
 exact step_ok s c
theorem layFm0_ok : (layFm0 markR stepR).OK Tryz.prog := (Lay.nil_ok.addF markTold_ok).addF sgTold_ok
noncomputable def feedR : FdR := fun x t => feedL oneP unfM (decSS x) t
theorem feedR_enc (s : SS) (t : Bs) : feedR (encSS s) t = feedL oneP unfM s t := by unfold feedR; rw [decSS_enc]
theorem fm_rd (R : FdR) (t : Bs) (s : SS) (i : Nat) (hi : i < t.length) (hl : t.length ≤ 1099511627776) (H : Heap) (D : List (FuncId × List AVal)) (k : Kont) :
 lturn Tryz.prog (layFm0 markR stepR) (fmFH R) 5 5 [1,2,4,17,18] [2,4] [1,2,4,5,6] [2,4] (stL 38 [1,2,4,17,18] [.str t, .ptr (.tmp 2) 0, .ptr (.tmp 4) 0, .int .i64 t.length, .int .i64 (i : Nat)] [2,4] [encSS s, encSS ss0] H D) k =
 bif (scanStep oneP unfM s (t.getD i 0)).2 != 0 then k .ret (stL 38 [1,2,4,5,6] [.str t, .ptr (.tmp 2) 0, .ptr (.tmp 4) 0, .int .i64 (i : Nat), .int .i64 (scanStep oneP unfM s (t.getD i 0)).2] [2,4] [encSS (scanStep oneP unfM s (t.getD i 0)).1, encSS ss0] H D)
 else k .normal (stL 38 [1,2,4,17,18] [.str t, .ptr (.tmp 2) 0, .ptr (.tmp 4) 0, .int .i64 t.length, .int .i64 ((i + 1 : Nat) : Int)] [2,4] [encSS (scanStep oneP unfM s (t.getD i 0)).1, encSS ss0] H D) := by
 have key := fm_step markR stepR R t s t.length i H D k
 have e1 : IntKind.i64.wrap ((i : Int) + 1) = ((i + 1 : Nat) : Int) := wrap_add1 (by omega)
 simp only [c0v, cGv, ef0, ef, ssEta, ss0v, stepR_enc, markR_enc, tstS, cond_true, okc_u8, e1, Int.toNat_natCast, dT (show (i : Int) < (t.length : Int) by omega), dT (show (0 : Int) ≤ (i : Int) by omega), Bool.and_self] at key
 exact key.trans ((congrArg (fun c => cond c _ none) (tst_true ⟨⟨isS_enc s, trivial⟩, .refl _, trivial⟩)).trans (cond_true _ _))
theorem scanStep_err {s : SS} {c : UInt8} (h : (scanStep oneP unfM s c).2 ≠ 0) : (scanStep oneP unfM s c).1 = ss0 := by
 unfold scanStep at *
 cases hm : markE s != 0 with
 | true => rfl
 | false =>
  rw [hm] at h
  cases he : (stepS oneP unfM s c).e == 0 with
  | true => rw [he] at h; exact absurd rfl h
  | false => rfl
noncomputable abbrev fmTurn := lturn Tryz.prog (layFm0 markR stepR) (fmFH feedR) 5 5 [1,2,4,17,18] [2,4] [1,2,4,5,6] [2,4]
theorem fm_runs (t : Bs) (hl : t.length ≤ 1099511627776) (H : Heap) : ∀ (m i : Nat) (s : SS), t.length - i ≤ m → i ≤ t.length →
 ((feedL oneP unfM s (t.drop i)).2.2 = 0 → LoopRuns fmTurn 38 [1,2,4,17,18] [2,4] [1,2,4,5,6] [2,4] [.str t, .ptr (.tmp 2) 0, .ptr (.tmp 4) 0, .int .i64 t.length, .int .i64 (i : Nat)] [encSS s, encSS ss0] H (.exit 0) [.str t, .ptr (.tmp 2) 0, .ptr (.tmp 4) 0, .undef, .undef] [encSS (feedL oneP unfM s (t.drop i)).1, encSS ss0] H) ∧
 ((feedL oneP unfM s (t.drop i)).2.2 ≠ 0 → LoopRuns fmTurn 38 [1,2,4,17,18] [2,4] [1,2,4,5,6] [2,4] [.str t, .ptr (.tmp 2) 0, .ptr (.tmp 4) 0, .int .i64 t.length, .int .i64 (i : Nat)] [encSS s, encSS ss0] H .ret [.str t, .ptr (.tmp 2) 0, .ptr (.tmp 4) 0, .int .i64 ((i + (feedL oneP unfM s (t.drop i)).2.1 : Nat) : Int), .int .i64 (feedL oneP unfM s (t.drop i)).2.2] [encSS (feedL oneP unfM s (t.drop i)).1, encSS ss0] H) := by
 intro m
 have fin : ∀ s, LoopRuns fmTurn 38 [1,2,4,17,18] [2,4] [1,2,4,5,6] [2,4] [.str t, .ptr (.tmp 2) 0, .ptr (.tmp 4) 0, .int .i64 t.length, .int .i64 (t.length : Nat)] [encSS s, encSS ss0] H (.exit 0) [.str t, .ptr (.tmp 2) 0, .ptr (.tmp 4) 0, .undef, .undef] [encSS s, encSS ss0] H := fun s =>
  .stop (by simp) (fun D k => by
   have key := fm_step markR stepR feedR t s t.length (t.length : Nat) H D k
   simp only [dF (show ¬ ((t.length : Nat) : Int) < (t.length : Int) by omega), cond_false] at key
   exact key)
 induction m with
 | zero =>
  intro i s hm hi
  have hi : i = t.length := by omega
  subst hi
  rw [List.drop_length]
  exact ⟨fun _ => fin s, fun h => absurd rfl h⟩
 | succ m ih =>
  intro i s hm hi
  by_cases hlt : i < t.length
  · rw [drop_cons_of t i 0 hlt]
    have e2 : feedL oneP unfM s (t.getD i 0 :: t.drop (i + 1)) = bif (scanStep oneP unfM s (t.getD i 0)).2 != 0 then (ss0, 0, (scanStep oneP unfM s (t.getD i 0)).2) else ((feedL oneP unfM (scanStep oneP unfM s (t.getD i 0)).1 (t.drop (i + 1))).1, (feedL oneP unfM (scanStep oneP unfM s (t.getD i 0)).1 (t.drop (i + 1))).2.1 + 1, (feedL oneP unfM (scanStep oneP unfM s (t.getD i 0)).1 (t.drop (i + 1))).2.2) := rfl
    rw [e2]
    have rd := fun D k => fm_rd feedR t s i hlt hl H D k
    cases he : (scanStep oneP unfM s (t.getD i 0)).2 != 0 with
    | true =>
     have hn : (scanStep oneP unfM s (t.getD i 0)).2 ≠ 0 := by simpa using he
     simp only [he, cond_true] at rd ⊢
     rw [scanStep_err hn] at rd
     exact ⟨fun h => absurd h hn, fun _ => .stop (by simp) rd⟩
    | false =>
     simp only [he, cond_false] at rd ⊢
     obtain ⟨g1, g2⟩ := ih (i + 1) (scanStep oneP unfM s (t.getD i 0)).1 (by omega) (by omega)
     refine ⟨fun h => .step rd (g1 h), fun h => .step rd ?_⟩
     have := g2 h
     have en : i + 1 + (feedL oneP unfM (scanStep oneP unfM s (t.getD i 0)).1 (t.drop (i + 1))).2.1 = i + ((feedL oneP unfM (scanStep oneP unfM s (t.getD i 0)).1 (t.drop (i + 1))).2.1 + 1) := by omega
     rw [en] at this
     exact this
  · have hi : i = t.length := by omega
    subst hi
    rw [List.drop_length]
    exact ⟨fun _ => fin s, fun h => absurd rfl h⟩
theorem fmSp_ok : SpOK fmTurn 38 [1,2,4,17,18] [2,4] [1,2,4,5,6] [2,4] (fmSp feedR) := mkL_ok fun a h => by
 obtain ⟨t, x, i, H⟩ := a
 obtain ⟨h1, h2, h3⟩ := h
 simp only at h1 h2 h3
 subst h2
 obtain ⟨s, rfl⟩ := isS_get h1
 obtain ⟨g1, g2⟩ := fm_runs t h3 H t.length 0 s (by omega) (by omega)
 rw [List.drop_zero] at g1 g2
 show ∃ e vs bs H', (∀ k : AExit → List AVal → List (List AVal) → Heap → Ans, cond ((feedR (encSS s) t).2.2 != 0) _ _ = k e vs bs H') ∧ _
 rw [feedR_enc]
 cases he : (feedL oneP unfM s t).2.2 != 0 with
 | true =>
  have hn : (feedL oneP unfM s t).2.2 ≠ 0 := by simpa using he
  have := g2 hn
  rw [Nat.zero_add] at this
  exact ⟨_, _, _, _, fun k => rfl, this⟩
 | false =>
  have hn : (feedL oneP unfM s t).2.2 = 0 := by simpa using he
  exact ⟨_, _, _, _, fun k => rfl, g1 hn⟩
theorem layFm_ok : (layFm markR stepR feedR).OK Tryz.prog := layFm0_ok.loop1 (id := 5) (by kernel_rfl) (by kernel_rfl) (by kernel_rfl) fmSp_ok
theorem feedL_n : ∀ (t : Bs) (s : SS), (feedL oneP unfM s t).2.2 = 0 → (feedL oneP unfM s t).2.1 = t.length
 | [], s, _ => rfl
 | c :: t, s, h => by
  have e : feedL oneP unfM s (c :: t) = bif (scanStep oneP unfM s c).2 != 0 then (ss0, 0, (scanStep oneP unfM s c).2) else ((feedL oneP unfM (scanStep oneP unfM s c).1 t).1, (feedL oneP unfM (scanStep oneP unfM s c).1 t).2.1 + 1, (feedL oneP unfM (scanStep oneP unfM s c).1 t).2.2) := rfl
  rw [e] at h ⊢
  cases he : (scanStep oneP unfM s c).2 != 0 with
  | true => rw [he] at h; have : (scanStep oneP unfM s c).2 = 0 := h; rw [this] at he; exact absurd he (by decide)
  | false =>
   rw [he] at h
   show (feedL oneP unfM (scanStep oneP unfM s c).1 t).2.1 + 1 = _
   rw [feedL_n t _ h]; rfl
theorem feedL_err : ∀ (t : Bs) (s : SS), (feedL oneP unfM s t).2.2 ≠ 0 → (feedL oneP unfM s t).1 = ss0
 | [], s, h => absurd rfl h
 | c :: t, s, h => by
  have e : feedL oneP unfM s (c :: t) = bif (scanStep oneP unfM s c).2 != 0 then (ss0, 0, (scanStep oneP unfM s c).2) else ((feedL oneP unfM (scanStep oneP unfM s c).1 t).1, (feedL oneP unfM (scanStep oneP unfM s c).1 t).2.1 + 1, (feedL oneP unfM (scanStep oneP unfM s c).1 t).2.2) := rfl
  rw [e] at h ⊢
  cases he : (scanStep oneP unfM s c).2 != 0 with
  | true => rfl
  | false =>
   rw [he] at h
   exact feedL_err t _ h
theorem feed_ok (s : SS) (t : Bs) (hl : t.length ≤ 1099511627776) : CallOK Tryz.prog 5 [.agg (encSS s), .str t] [] (.ret (.tuple [.agg (encSS (scanFeed oneP unfM s t).1), .int .i64 ((scanFeed oneP unfM s t).2.1 : Nat), .int .i64 (scanFeed oneP unfM s t).2.2]) []) := by
 refine layFm_ok.callF (G := []) rfl (fun k => ?_)
 have key := fm_fun markR stepR feedR s t k
 simp only [c0v, cGv, ef0, ef, ssEta, ss0v, feedR_enc, markR_enc, tstS, cond_true] at key
 refine key.trans ?_
 unfold scanFeed
 cases hm : markE s != 0 with
 | true => rfl
 | false =>
  simp only [cond_false]
  refine (congrArg (fun c => cond c _ none) (tst_true ⟨⟨isS_enc s, rfl, hl⟩, .refl _, by trivial⟩)).trans ((cond_true _ _).trans ?_)
  cases he : (feedL oneP unfM s t).2.2 != 0 with
  | true =>
   have hn : (feedL oneP unfM s t).2.2 ≠ 0 := by simpa using he
   rw [feedL_err t s hn]
   rfl
  | false =>
   have h0 : (feedL oneP unfM s t).2.2 = 0 := by simpa using he
   have hn := feedL_n t s h0
   rw [h0, hn]
   rfl
noncomputable def sfTold (F : FdR) : FSp := mkF (fun xs H => (cellsG (xs.getD 0 .undef), aS xs 1)) (fun a => isS a.1 ∧ a.2.length ≤ 1099511627776) (fun a => [.agg a.1, .str a.2]) (fun _ => []) (fun a k => k (.ret (.tuple [.agg (encSS (F a.1 a.2).1), .int .i64 ((F a.1 a.2).2.1 : Nat), .int .i64 (F a.1 a.2).2.2]) []))
noncomputable def scanR : FdR := fun x t => scanFeed oneP unfM (decSS x) t
theorem scanR_enc (s : SS) (t : Bs) : scanR (encSS s) t = scanFeed oneP unfM s t := by unfold scanR; rw [decSS_enc]
theorem sfTold_ok : ∀ xs H k out, sfTold scanR xs H k = some out → ∃ o, CallOK Tryz.prog 5 xs H o ∧ k o = some out := mkF_ok fun a ha => by
 obtain ⟨x, t⟩ := a
 obtain ⟨h1, h2⟩ := ha
 simp only at h1 h2
 obtain ⟨s, rfl⟩ := isS_get h1
 refine ⟨_, fun k => rfl, ?_⟩
 show CallOK _ _ _ _ (.ret (.tuple [.agg (encSS (scanR (encSS s) t).1), .int .i64 ((scanR (encSS s) t).2.1 : Nat), .int .i64 (scanR (encSS s) t).2.2]) [])
 rw [scanR_enc]
 exact feed_ok s t h2
end Go.Mu
namespace Go.Mu
open Go Go.Proofs
noncomputable def layIa (K : List AVal → Int) : Lay := Lay.nil.addF 29 (ksTold K)
theorem ina_fun (K : List AVal → Int) (s : SS) (k : Out → Ans) : iFun Tryz.prog ((layIa K).hd Tryz.prog) (layIa K).fhs 0 16 [.agg (encSS s)] [] k = (
 let n0 : Int := (↑(List.length s.el) : Int);
 let c1 : Bool := decide (n0 ≥ 1);
 let z1 := [AVal.int .i64 s.k, AVal.str s.el, AVal.str s.ar, AVal.int .u8 (↑s.dl.toNat : Int), AVal.str s.pe, AVal.str s.rf, AVal.int .i64 s.pt, AVal.str s.wd];
 let n2 : Int := K (cellsG (AVal.agg z1));
 let c3 : Bool := s.pt == 0;
 let c4 : Bool := s.pt == 2;
 let c5 : Bool := s.pt == 3;
 let z0 := [AVal.int .i64 s.k, AVal.str s.el, AVal.str s.ar, AVal.int .u8 (↑s.dl.toNat : Int), AVal.str s.pe, AVal.str s.rf, AVal.int .i64 s.pt, AVal.str []];
 let z2 := Out.ret (AVal.tuple [AVal.agg z0, AVal.int .i64 0]) [];
 let z3 := Out.ret (AVal.tuple [AVal.agg [AVal.int .i64 s.k, AVal.str s.el, AVal.str s.ar, AVal.int .u8 (↑s.dl.toNat : Int), AVal.str s.pe, AVal.str s.rf, AVal.int .i64 1, AVal.str []], AVal.int .i64 9]) [];
 let z4 := bif decide (s.pt > 0) then k (Out.ret (AVal.tuple [AVal.agg z0, AVal.int .i64 (IntKind.i64.wrap (s.pt + 3))]) []) else k (Out.ret (AVal.tuple [AVal.agg z0, AVal.int .i64 s.pt]) []);
 let z6 := Out.ret (AVal.tuple [AVal.agg z0, AVal.int .i64 10]) [];
 let z5 := bif c4 then bif c4 then k z6 else k z2 else bif c5 then k z6 else k z2;
 let z7 := Out.ret (AVal.tuple [AVal.agg z1, AVal.int .i64 0]) [];
  bif decide (1 ≤ n0) || !c1 then bif bif c1 then List.drop (Int.toNat 0) (List.take (Int.toNat 1) s.el) == [47] else false then k z7 else bif tst (isS (cellsG (AVal.agg z1)) ∧ SubL [AVal.agg z1] [AVal.agg (cellsG (AVal.agg z1))] ∧ ([] : Heap) = []) then bif n2 == 0 then k (Out.ret (AVal.tuple [AVal.agg z1, AVal.int .i64 3]) []) else bif n2 == 1 then bif c3 then k (Out.ret (AVal.tuple [AVal.agg [AVal.int .i64 s.k, AVal.str s.el, AVal.str s.ar, AVal.int .u8 (↑s.dl.toNat : Int), AVal.str s.pe, AVal.str s.rf, AVal.int .i64 4, AVal.str []], AVal.int .i64 4]) []) else bif c4 then bif c4 then z4 else k z2 else bif c5 then z4 else k z2 else bif n2 == 2 then bif c3 then bif c3 then k z3 else z5 else bif s.pt == 1 then k z3 else z5 else bif n2 == 3 then bif c3 then k (Out.ret (AVal.tuple [AVal.agg [AVal.int .i64 s.k, AVal.str s.el, AVal.str s.ar, AVal.int .u8 (↑s.dl.toNat : Int), AVal.str s.pe, AVal.str s.rf, AVal.int .i64 0, AVal.str [63]], AVal.int .i64 12]) []) else k z2 else k z7 else none else none) := by kernel_rfl
theorem inr_fun (s : SS) (k : Out → Ans) : iFun Tryz.prog (Lay.nil.hd Tryz.prog) Lay.nil.fhs 0 17 [.agg (encSS s)] [] k = (
 let c0 : Bool := s.pt == 0;
 let c1 : Bool := s.pt == 2;
 let z0 := [AVal.int .i64 s.k, AVal.str s.el, AVal.str s.ar, AVal.int .u8 (↑s.dl.toNat : Int), AVal.str s.pe, AVal.str s.rf, AVal.int .i64 s.pt, AVal.str []];
 let z3 := Out.ret (AVal.tuple [AVal.agg z0, AVal.int .i64 0]) [];
 let z4 := Out.ret (AVal.tuple [AVal.agg z0, AVal.int .i64 8]) [];
 let z1 := bif c1 then bif c1 then k z4 else k z3 else bif s.pt == 3 then k z4 else k z3;
 let z2 := Out.ret (AVal.tuple [AVal.agg [AVal.int .i64 s.k, AVal.str s.el, AVal.str s.ar, AVal.int .u8 (↑s.dl.toNat : Int), AVal.str s.pe, AVal.str s.rf, AVal.int .i64 1, AVal.str []], AVal.int .i64 7]) [];
  bif s.k == 18 then bif c0 then k (Out.ret (AVal.tuple [AVal.agg [AVal.int .i64 s.k, AVal.str s.el, AVal.str s.ar, AVal.int .u8 (↑s.dl.toNat : Int), AVal.str s.pe, AVal.str s.rf, AVal.int .i64 0, AVal.str [63]], AVal.int .i64 11]) []) else k z3 else bif c0 then bif c0 then k z2 else z1 else bif s.pt == 1 then k z2 else z1) := by kernel_rfl
abbrev HoF := List AVal → SS × Int
noncomputable def hoTold (F : HoF) : FSp := mkF (fun xs H => cellsG (xs.getD 0 .undef)) isS (fun x => [.agg x]) (fun _ => []) (fun x k => k (.ret (.tuple [.agg (encSS (F x).1), .int .i64 (F x).2]) []))
noncomputable def layHo (M : List AVal → Int) (A R : HoF) : Lay := ((Lay.nil.addF 14 (ksTold M)).addF 16 (hoTold A)).addF 17 (hoTold R)
theorem hole_fun (M : List AVal → Int) (A R : HoF) (s : SS) (k : Out → Ans) : iFun Tryz.prog ((layHo M A R).hd Tryz.prog) (layHo M A R).fhs 0 7 [.agg (encSS s)] [] k = (
 let z2 := [AVal.int .i64 s.k, AVal.str s.el, AVal.str s.ar, AVal.int .u8 (↑s.dl.toNat : Int), AVal.str s.pe, AVal.str s.rf, AVal.int .i64 s.pt, AVal.str s.wd];
 let z0 := cellsG (AVal.agg z2);
 let c0 : Bool := tst (isS z0 ∧ SubL [AVal.agg z2] [AVal.agg z0] ∧ ([] : Heap) = []);
 let n1 : Int := M z0;
 let n2 : Int := (A z0).snd;
 let c3 : Bool := s.k == 18;
 let n4 : Int := (R z0).snd;
 let z4 := [AVal.int .i64 0, AVal.str [], AVal.str [], AVal.int .u8 0, AVal.str [], AVal.str [], AVal.int .i64 0, AVal.str []];
 let z1 := Out.ret (AVal.tuple [AVal.agg z4, AVal.int .i64 0, AVal.int .i64 91]) [];
 let z3 := bif c0 then bif n4 == 0 then k z1 else k (Out.ret (AVal.tuple [AVal.agg [AVal.int .i64 (R z0).fst.k, AVal.str (R z0).fst.el, AVal.str (R z0).fst.ar, AVal.int .u8 (↑(R z0).fst.dl.toNat : Int), AVal.str (R z0).fst.pe, AVal.str (R z0).fst.rf, AVal.int .i64 (R z0).fst.pt, AVal.str (R z0).fst.wd], AVal.int .i64 n4, AVal.int .i64 0]) []) else none;
  bif c0 then bif n1 != 0 then k (Out.ret (AVal.tuple [AVal.agg z4, AVal.int .i64 0, AVal.int .i64 n1]) []) else bif bif s.pe == [] then s.rf == [] else false then bif s.k == 0 then k (Out.ret (AVal.tuple [AVal.agg z2, AVal.int .i64 1, AVal.int .i64 0]) []) else bif s.k == 17 then k (Out.ret (AVal.tuple [AVal.agg z2, AVal.int .i64 2, AVal.int .i64 0]) []) else bif s.k == 9 then bif c0 then bif n2 == 0 then k z1 else k (Out.ret (AVal.tuple [AVal.agg [AVal.int .i64 (A z0).fst.k, AVal.str (A z0).fst.el, AVal.str (A z0).fst.ar, AVal.int .u8 (↑(A z0).fst.dl.toNat : Int), AVal.str (A z0).fst.pe, AVal.str (A z0).fst.rf, AVal.int .i64 (A z0).fst.pt, AVal.str (A z0).fst.wd], AVal.int .i64 n2, AVal.int .i64 0]) []) else none else bif c3 then bif c3 then z3 else k z1 else bif s.k == 19 then z3 else k z1 else k z1 else none) := by kernel_rfl
noncomputable def hlTold (F : List AVal → SS × Int × Int) : FSp := mkF (fun xs H => cellsG (xs.getD 0 .undef)) isS (fun x => [.agg x]) (fun _ => []) (fun x k => k (.ret (.tuple [.agg (encSS (F x).1), .int .i64 (F x).2.1, .int .i64 (F x).2.2]) []))
end Go.Mu
namespace Go.Mu
open Go Go.Proofs
theorem hpB_len {x a : Bs} (h : hpB x a = true) : x.length ≤ a.length := by
 unfold hpB at h
 cases hd : decide ((a.length : Int) ≥ (x.length : Int)) with
 | false => rw [hd] at h; cases h
 | true => have := of_decide_eq_true hd; omega
theorem unfM_len (t : Bs) (h : unfM t = true) : t.length ≤ 16 := by
 unfold unfM at h
 cases h38 : hpB [38] t with
 | false => rw [h38] at h; cases h
 | true =>
  rw [h38] at h
  simp only [Bool.not_true, cond_false] at h
  cases hn : unfNames.any (fun w => hpB (t.drop 1) w) with
  | true =>
   obtain ⟨w, hw, hh⟩ := List.any_eq_true.1 hn
   have h1 := hpB_len hh
   rw [List.length_drop] at h1
   have h2 : w.length ≤ 4 := by
    unfold unfNames at hw
    simp only [List.mem_cons, List.not_mem_nil, or_false] at hw
    rcases hw with rfl | rfl | rfl | rfl | rfl <;> decide
   omega
  | false =>
   rw [hn] at h
   simp only [cond_false] at h
   cases hp : (prtM (t.drop 1)).2.2 with
   | false => rw [hp] at h; cases h
   | true =>
    rw [hp] at h
    have h7 : (prtM (t.drop 1)).1.length ≤ 7 := by
     have h : numB (prtM (t.drop 1)).1 (prtM (t.drop 1)).2.1 = true := h
     unfold numB at h
     simp only [Bool.and_eq_true, decide_eq_true_eq] at h
     exact h.2
    have h9 : t.length - 3 ≤ (prtM (t.drop 1)).1.length := by
     unfold prtM
     cases hpB [35] (t.drop 1) with
     | false => show t.length - 3 ≤ (t.drop 1).length; rw [List.length_drop]; omega
     | true =>
      show t.length - 3 ≤ (bif _ then (((t.drop 1).drop 1).drop 1, true, true) else ((t.drop 1).drop 1, false, true) : Bs × Bool × Bool).1.length
      cases (bif !(t.drop 1).drop 1 == [] then orx (((t.drop 1).drop 1).getD 0 0) else false) <;> simp only [cond_true, cond_false, List.length_drop] <;> omega
    omega
theorem scanFeed_inv0 {s : SS} (h : SInv s) (t : Bs) : scanFeed oneP unfM s t = feedL oneP unfM s t := by
 unfold scanFeed
 rw [h.mark]; rfl
noncomputable abbrev scanA (a : Bs) : SS × Nat × Int := scanFeed oneP unfM ss0 a
theorem scanA_inv (a : Bs) : SInv (scanA a).1 := scanFeed_inv unfM_len ss0_inv a
end Go.Mu
namespace Go.Mu
open Go Go.Proofs
theorem layIa_ok : (layIa kindR).OK Tryz.prog := Lay.nil_ok.addF kindTold_ok
theorem ina_ok (s : SS) : CallOK Tryz.prog 16 [.agg (encSS s)] [] (.ret (.tuple [.agg (encSS (inAttrM s).1), .int .i64 (inAttrM s).2]) []) := layIa_ok.callF (G := []) rfl (fun k => by
 have key := ina_fun kindR s k
 have g : (decide (1 ≤ (s.el.length : Int)) || !decide ((s.el.length : Int) ≥ 1)) = true := Bool.or_not_self _
 have eh : (bif decide ((s.el.length : Int) ≥ 1) then List.drop (Int.toNat 0) (List.take (Int.toNat 1) s.el) == [47] else false) = hpB [47] s.el := rfl
 simp only [c0v, cGv, ef0, ef, ssEta, ss0v, kindR_enc, tstS, cond_true, g, eh] at key
 refine key.trans ?_
 clear key g eh
 unfold inAttrM
 cases hpB [47] s.el with
 | true => rfl
 | false =>
  simp only [cond_false]
  generalize kindM s = q
  obtain ⟨sk, el, ar, dl, pe, rf, pt, wd⟩ := s
  by_cases q0 : q = 0
  · subst q0; rfl
  by_cases q1 : q = 1
  · subst q1
    by_cases p0 : pt = 0
    · subst p0; rfl
    by_cases p1 : pt = 1
    · subst p1; rfl
    by_cases p2 : pt = 2
    · subst p2; rfl
    by_cases p3 : pt = 3
    · subst p3; rfl
    unfold urlHole
    simp only [beq_f p0, beq_f p1, beq_f p2, beq_f p3, Bool.or_self, cond_false]
    rfl
  by_cases q2 : q = 2
  · subst q2
    by_cases p0 : pt = 0
    · subst p0; rfl
    by_cases p1 : pt = 1
    · subst p1; rfl
    by_cases p2 : pt = 2
    · subst p2; rfl
    by_cases p3 : pt = 3
    · subst p3; rfl
    unfold jsHole
    simp only [beq_f p0, beq_f p1, beq_f p2, beq_f p3, Bool.or_self, cond_false]
    rfl
  by_cases q3 : q = 3
  · subst q3
    by_cases p0 : pt = 0
    · subst p0; rfl
    by_cases p1 : pt = 1
    · subst p1; rfl
    by_cases p2 : pt = 2
    · subst p2; rfl
    by_cases p3 : pt = 3
    · subst p3; rfl
    simp only [beq_f p0, beq_f p1, beq_f p2, beq_f p3, Bool.or_self, cond_false]
    rfl
  simp only [beq_f q0, beq_f q1, beq_f q2, beq_f q3, cond_false])
noncomputable def inaR : HoF := fun x => inAttrM (decSS x)
theorem inaR_enc (s : SS) : inaR (encSS s) = inAttrM s := by unfold inaR; rw [decSS_enc]
theorem hoTold_ok {f : FuncId} {F : SS → SS × Int} (h : ∀ s, CallOK Tryz.prog f [.agg (encSS s)] [] (.ret (.tuple [.agg (encSS (F s).1), .int .i64 (F s).2]) [])) : ∀ xs H k out, hoTold (fun x => F (decSS x)) xs H k = some out → ∃ o, CallOK Tryz.prog f xs H o ∧ k o = some out := mkF_ok fun x hx => by
 have hx : isS x := hx
 obtain ⟨s, rfl⟩ := isS_get hx
 refine ⟨_, fun k => rfl, ?_⟩
 show CallOK _ _ _ _ (.ret (.tuple [.agg (encSS (F (decSS (encSS s))).1), .int .i64 (F (decSS (encSS s))).2]) [])
 rw [decSS_enc]
 exact h s
theorem inr_ok (s : SS) : CallOK Tryz.prog 17 [.agg (encSS s)] [] (.ret (.tuple [.agg (encSS (inRawM s).1), .int .i64 (inRawM s).2]) []) := Lay.nil_ok.callF (G := []) rfl (fun k => by
 have key := inr_fun s k
 simp only [c0v, cGv, ef0, ef, ssEta, ss0v, tstS, cond_true] at key
 refine key.trans ?_
 clear key
 unfold inRawM
 obtain ⟨sk, el, ar, dl, pe, rf, pt, wd⟩ := s
 by_cases h18 : sk = 18
 · subst h18
   show (bif pt == 0 then _ else _) = k (.ret (.tuple [.agg (encSS (bif pt == 0 then ((⟨18, el, ar, dl, pe, rf, 0, [63]⟩ : SS), (11 : Int)) else (⟨18, el, ar, dl, pe, rf, pt, []⟩, 0)).1), .int .i64 (bif pt == 0 then ((⟨18, el, ar, dl, pe, rf, 0, [63]⟩ : SS), (11 : Int)) else (⟨18, el, ar, dl, pe, rf, pt, []⟩, 0)).2]) [])
   cases pt == 0 <;> rfl
 · simp only [beq_f h18, cond_false]
   by_cases p0 : pt = 0
   · subst p0; rfl
   by_cases p1 : pt = 1
   · subst p1; rfl
   by_cases p2 : pt = 2
   · subst p2; rfl
   by_cases p3 : pt = 3
   · subst p3; rfl
   unfold jsHole
   simp only [beq_f p0, beq_f p1, beq_f p2, beq_f p3, Bool.or_self, cond_false]
   rfl)
noncomputable def inrR : HoF := fun x => inRawM (decSS x)
theorem inrR_enc (s : SS) : inrR (encSS s) = inRawM s := by unfold inrR; rw [decSS_enc]
theorem layHo_ok : (layHo markR inaR inrR).OK Tryz.prog := ((Lay.nil_ok.addF markTold_ok).addF (hoTold_ok ina_ok)).addF (hoTold_ok inr_ok)
theorem hole_ok (s : SS) : CallOK Tryz.prog 7 [.agg (encSS s)] [] (.ret (.tuple [.agg (encSS (holeM s).1), .int .i64 (holeM s).2.1, .int .i64 (holeM s).2.2]) []) := layHo_ok.callF (G := []) rfl (fun k => by
 have key := hole_fun markR inaR inrR s k
 simp only [c0v, cGv, ef0, ef, ssEta, ss0v, markR_enc, inaR_enc, inrR_enc, tstS, cond_true, bif_and] at key
 refine key.trans ?_
 clear key
 unfold holeM holeR
 cases markE s != 0 with
 | true => rfl
 | false =>
  cases s.pe == [] && s.rf == [] with
  | false => rfl
  | true =>
   simp only [cond_true, cond_false]
   generalize inAttrM s = q
   generalize inRawM s = r
   by_cases h0 : s.k = 0
   · rw [h0]; rfl
   by_cases h17 : s.k = 17
   · rw [h17]; rfl
   by_cases h9 : s.k = 9
   · rw [h9]
     show (bif q.2 == 0 then _ else _) = k (.ret (.tuple [.agg (encSS (bif q.2 == 0 then ((ss0, 0, 91) : SS × Int × Int) else (q.1, q.2, 0)).1), .int .i64 (bif q.2 == 0 then ((ss0, 0, 91) : SS × Int × Int) else (q.1, q.2, 0)).2.1, .int .i64 (bif q.2 == 0 then ((ss0, 0, 91) : SS × Int × Int) else (q.1, q.2, 0)).2.2]) [])
     cases q.2 == 0 <;> rfl
   by_cases h18 : s.k = 18
   · rw [h18]
     show (bif r.2 == 0 then _ else _) = k (.ret (.tuple [.agg (encSS (bif r.2 == 0 then ((ss0, 0, 91) : SS × Int × Int) else (r.1, r.2, 0)).1), .int .i64 (bif r.2 == 0 then ((ss0, 0, 91) : SS × Int × Int) else (r.1, r.2, 0)).2.1, .int .i64 (bif r.2 == 0 then ((ss0, 0, 91) : SS × Int × Int) else (r.1, r.2, 0)).2.2]) [])
     cases r.2 == 0 <;> rfl
   by_cases h19 : s.k = 19
   · rw [h19]
     show (bif r.2 == 0 then _ else _) = k (.ret (.tuple [.agg (encSS (bif r.2 == 0 then ((ss0, 0, 91) : SS × Int × Int) else (r.1, r.2, 0)).1), .int .i64 (bif r.2 == 0 then ((ss0, 0, 91) : SS × Int × Int) else (r.1, r.2, 0)).2.1, .int .i64 (bif r.2 == 0 then ((ss0, 0, 91) : SS × Int × Int) else (r.1, r.2, 0)).2.2]) [])
     cases r.2 == 0 <;> rfl
   simp only [beq_f h0, beq_f h17, beq_f h9, beq_f h18, beq_f h19, cond_false, Bool.or_self]
   rfl)
noncomputable def holeX : List AVal → SS × Int × Int := fun x => holeM (decSS x)
theorem holeX_enc (s : SS) : holeX (encSS s) = holeM s := by unfold holeX; rw [decSS_enc]
theorem hlTold_ok : ∀ xs H k out, hlTold holeX xs H k = some out → ∃ o, CallOK Tryz.prog 7 xs H o ∧ k o = some out := mkF_ok fun x hx => by
 have hx : isS x := hx
 obtain ⟨s, rfl⟩ := isS_get hx
 refine ⟨_, fun k => rfl, ?_⟩
 show CallOK _ _ _ _ (.ret (.tuple [.agg (encSS (holeX (encSS s)).1), .int .i64 (holeX (encSS s)).2.1, .int .i64 (holeX (encSS s)).2.2]) [])
 rw [holeX_enc]
 exact hole_ok s
end Go.Mu
namespace Go.Mu
open Go Go.Proofs
noncomputable def layLd (S : FdR) (F : List AVal → SS × Int × Int) (W : List AVal → Prop) (A : ApA) (X : ApX) (N : List AVal → Int) (B : List AVal → Bool) : Lay :=
 (((((Lay.nil.addF 5 (sfTold S)).addF 7 (hlTold F)).addF 4 aliveT).addF 11 (apTold W A X)).addF 9 (ckTold W N)).addF 10 (vpTold W B)
theorem lead_fun (S : FdR) (F : List AVal → SS × Int × Int) (W : List AVal → Prop) (A : ApA) (X : ApX) (N : List AVal → Int) (B : List AVal → Bool) (a : Bs) (v : VaD) (k : Out → Ans) : iFun Tryz.prog ((layLd S F W A X N B).hd Tryz.prog) (layLd S F W A X N B).fhs 0 3 [.str a, .agg (encVa v)] [] k = (
 let c0 : Bool := tst (W (cellsA (AVal.agg [AVal.int .i64 v.kind, AVal.int .i64 v.int, AVal.str v.text, AVal.list v.lf v.ln v.lr, AVal.list v.kf v.keys.length fun (i : Nat) => [AVal.str (v.keys.getD i [])]])) ∧ SubL [AVal.agg [AVal.int .i64 v.kind, AVal.int .i64 v.int, AVal.str v.text, AVal.list v.lf v.ln v.lr, AVal.list v.kf v.keys.length fun (i : Nat) => [AVal.str (v.keys.getD i [])]]] [AVal.agg (cellsA (AVal.agg [AVal.int .i64 v.kind, AVal.int .i64 v.int, AVal.str v.text, AVal.list v.lf v.ln v.lr, AVal.list v.kf v.keys.length fun (i : Nat) => [AVal.str (v.keys.getD i [])]]))] ∧ ([] : Heap) = []);
 let z3 := [AVal.int .i64 0, AVal.str [], AVal.str [], AVal.int .u8 0, AVal.str [], AVal.str [], AVal.int .i64 0, AVal.str []];
 let z1 := cellsG (AVal.agg z3);
 let n1 : Int := (S z1 a).snd.snd;
 let z0 := [AVal.int .i64 (S z1 a).fst.k, AVal.str (S z1 a).fst.el, AVal.str (S z1 a).fst.ar, AVal.int .u8 (↑(S z1 a).fst.dl.toNat : Int), AVal.str (S z1 a).fst.pe, AVal.str (S z1 a).fst.rf, AVal.int .i64 (S z1 a).fst.pt, AVal.str (S z1 a).fst.wd];
 let n2 : Int := (F (cellsG (AVal.agg z0))).snd.fst;
 let l3 : List UInt8 := A n2 (cellsA (AVal.agg [AVal.int .i64 v.kind, AVal.int .i64 v.int, AVal.str v.text, AVal.list v.lf v.ln v.lr, AVal.list v.kf v.keys.length fun (i : Nat) => [AVal.str (v.keys.getD i [])]]));
 let m4 : Nat := l3.length;
 let z2 := S (cellsG (AVal.agg z0)) l3;
 let n5 : Int := z2.snd.snd;
 let c6 : Bool := z2.fst.k == (F (cellsG (AVal.agg z0))).fst.k;
 let c7 : Bool := z2.fst.el == (F (cellsG (AVal.agg z0))).fst.el;
 let c8 : Bool := z2.fst.ar == (F (cellsG (AVal.agg z0))).fst.ar;
 let c9 : Bool := (↑z2.fst.dl.toNat : Int) == (↑(F (cellsG (AVal.agg z0))).fst.dl.toNat : Int);
 let c10 : Bool :=
  bif bif
  bif c6
  then c7
  else false
  then c8
  else false
  then c9
  else false;
 let c11 : Bool := z2.fst.rf == [];
 let n12 : Int := z2.fst.pt;
 let c13 : Bool := n12 == (F (cellsG (AVal.agg z0))).fst.pt;
  bif tst ((isS z1 ∧ List.length a ≤ 1099511627776) ∧ SubL [AVal.agg z3, AVal.str a] [AVal.agg z1, AVal.str a] ∧ ([] : Heap) = [])
  then bif tst (isS (cellsG (AVal.agg z0)) ∧ SubL [AVal.agg z0] [AVal.agg (cellsG (AVal.agg z0))] ∧ ([] : Heap) = [])
  then bif c0
  then bif c0
  then bif
  bif bif
  bif IntKind.i64.wrap (n1 + (F (cellsG (AVal.agg z0))).snd.snd) != 0
  then true
  else n1 != 0
  then true
  else N (cellsA (AVal.agg [AVal.int .i64 v.kind, AVal.int .i64 v.int, AVal.str v.text, AVal.list v.lf v.ln v.lr, AVal.list v.kf v.keys.length fun (i : Nat) => [AVal.str (v.keys.getD i [])]])) != 0
  then true
  else !B (cellsA (AVal.agg [AVal.int .i64 v.kind, AVal.int .i64 v.int, AVal.str v.text, AVal.list v.lf v.ln v.lr, AVal.list v.kf v.keys.length fun (i : Nat) => [AVal.str (v.keys.getD i [])]]))
  then k (Out.ret (AVal.bool true) [])
  else bif tst (W (canC (cellsA (AVal.agg [AVal.int .i64 v.kind, AVal.int .i64 v.int, AVal.str v.text, AVal.list v.lf v.ln v.lr, AVal.list v.kf v.keys.length fun (i : Nat) => [AVal.str (v.keys.getD i [])]]))) ∧ SubL [AVal.int .i64 n2, AVal.agg [AVal.int .i64 v.kind, AVal.int .i64 v.int, AVal.str v.text, AVal.list v.lf v.ln v.lr, AVal.list v.kf v.keys.length fun (i : Nat) => [AVal.str (v.keys.getD i [])]]] [AVal.int .i64 n2, AVal.agg (canC (cellsA (AVal.agg [AVal.int .i64 v.kind, AVal.int .i64 v.int, AVal.str v.text, AVal.list v.lf v.ln v.lr, AVal.list v.kf v.keys.length fun (i : Nat) => [AVal.str (v.keys.getD i [])]])))] ∧ ([] : Heap) = [])
  then bif tst ((isS (cellsG (AVal.agg z0)) ∧ m4 ≤ 1099511627776) ∧ SubL [AVal.agg z0, AVal.str l3] [AVal.agg (cellsG (AVal.agg z0)), AVal.str l3] ∧ ([] : Heap) = [])
  then bif
  bif n2 == 4
  then n5 == 93
  else false
  then k (Out.ret (AVal.bool false) [])
  else bif
  bif IntKind.i64.wrap (X n2 (cellsA (AVal.agg [AVal.int .i64 v.kind, AVal.int .i64 v.int, AVal.str v.text, AVal.list v.lf v.ln v.lr, AVal.list v.kf v.keys.length fun (i : Nat) => [AVal.str (v.keys.getD i [])]])) + n5) != 0
  then true
  else (↑z2.snd.fst : Int) != (↑m4 : Int)
  then k (Out.ret (AVal.bool false) [])
  else bif
  bif decide (n2 ≥ 4)
  then decide (n2 ≤ 6)
  else false
  then k (Out.ret (AVal.bool (bif
  bif c10
  then c11
  else false
  then n12 != 5
  else false)) [])
  else bif decide (n2 > 10)
  then k (Out.ret (AVal.bool (bif
  bif bif c10
  then z2.fst.pe == []
  else false
  then c11
  else false
  then c13
  else false)) [])
  else k (Out.ret (AVal.bool (c6 && (c7 && (c8 && (c9 && (z2.fst.pe == (F (cellsG (AVal.agg z0))).fst.pe && (z2.fst.rf == (F (cellsG (AVal.agg z0))).fst.rf && (c13 && (z2.fst.wd == (F (cellsG (AVal.agg z0))).fst.wd && true))))))))) [])
  else none
  else none
  else none
  else none
  else none
  else none) := by kernel_rfl
end Go.Mu
namespace Go.Mu
open Go Go.Proofs
theorem oneG (n : Nat) (d : UInt8) (a b : UInt8) (h1 : oneW [38, 35, a, b, 59] = onW4 [a, b] false 5) (h2 : valA [a, b] false = n) (h3 : ([a, b] == ([] : List UInt8) || !numB [a, b] false) = false) (hn : n ≤ 127) (h6 : encX n = [d]) (h7 : encXE n = 0) (h8 : (n == 0) = false) : oneP [38, 35, a, b, 59] = ([d], 5) := by
 rw [oneP_W _ (by simp)]
 obtain ⟨e4, e5⟩ := enc_exact (n := n) (by omega) (by omega)
 rw [h1]
 unfold onW4
 rw [h2, h3, e4, e5, h6, h7]
 have : ((n : Int) == 0) = false := by
  cases n with
  | zero => cases h8
  | succ m => simp; omega
 rw [this]
 rfl
theorem refs6_ok : Refs6 oneP unfM where
 r38 := ⟨⟨by decide, by decide, by decide⟩, by rw [show oneP ([38] ++ [97]) = ([], 0) from oneP_eq (by decide) (fun k => by kernel_rfl)]; decide, by kernel_rfl,
  ⟨by decide, by decide, by decide⟩, by rw [show oneP ([38] ++ [97] ++ [109]) = ([], 0) from oneP_eq (by decide) (fun k => by kernel_rfl)]; decide, by kernel_rfl,
  ⟨by decide, by decide, by decide⟩, by rw [show oneP ([38] ++ [97] ++ [109] ++ [112]) = ([], 0) from oneP_eq (by decide) (fun k => by kernel_rfl)]; decide, by kernel_rfl,
  ⟨by decide, by decide, by decide⟩, show oneP ([38] ++ [97] ++ [109] ++ [112] ++ [59]) = ([38], 5) from oneP_eq (by decide) (fun k => by kernel_rfl)⟩
 r60 := ⟨⟨by decide, by decide, by decide⟩, by rw [show oneP ([38] ++ [108]) = ([], 0) from oneP_eq (by decide) (fun k => by kernel_rfl)]; decide, by kernel_rfl,
  ⟨by decide, by decide, by decide⟩, by rw [show oneP ([38] ++ [108] ++ [116]) = ([], 0) from oneP_eq (by decide) (fun k => by kernel_rfl)]; decide, by kernel_rfl,
  ⟨by decide, by decide, by decide⟩, show oneP ([38] ++ [108] ++ [116] ++ [59]) = ([60], 4) from oneP_eq (by decide) (fun k => by kernel_rfl)⟩
 r62 := ⟨⟨by decide, by decide, by decide⟩, by rw [show oneP ([38] ++ [103]) = ([], 0) from oneP_eq (by decide) (fun k => by kernel_rfl)]; decide, by kernel_rfl,
  ⟨by decide, by decide, by decide⟩, by rw [show oneP ([38] ++ [103] ++ [116]) = ([], 0) from oneP_eq (by decide) (fun k => by kernel_rfl)]; decide, by kernel_rfl,
  ⟨by decide, by decide, by decide⟩, show oneP ([38] ++ [103] ++ [116] ++ [59]) = ([62], 4) from oneP_eq (by decide) (fun k => by kernel_rfl)⟩
 r34 := ⟨⟨by decide, by decide, by decide⟩, by rw [show oneP ([38] ++ [35]) = ([], 0) from oneP_eq (by decide) (fun k => by kernel_rfl)]; decide, by kernel_rfl,
  ⟨by decide, by decide, by decide⟩, by rw [show oneP ([38] ++ [35] ++ [51]) = ([], 0) from oneP_eq (by decide) (fun k => by kernel_rfl)]; decide, by kernel_rfl,
  ⟨by decide, by decide, by decide⟩, by rw [show oneP ([38] ++ [35] ++ [51] ++ [52]) = ([], 0) from oneP_eq (by decide) (fun k => by kernel_rfl)]; decide, by kernel_rfl,
  ⟨by decide, by decide, by decide⟩, oneG 34 34 51 52 (by kernel_rfl) (by kernel_rfl) (by kernel_rfl) (by decide) (by kernel_rfl) (by kernel_rfl) rfl⟩
 r39 := ⟨⟨by decide, by decide, by decide⟩, by rw [show oneP ([38] ++ [35]) = ([], 0) from oneP_eq (by decide) (fun k => by kernel_rfl)]; decide, by kernel_rfl,
  ⟨by decide, by decide, by decide⟩, by rw [show oneP ([38] ++ [35] ++ [51]) = ([], 0) from oneP_eq (by decide) (fun k => by kernel_rfl)]; decide, by kernel_rfl,
  ⟨by decide, by decide, by decide⟩, by rw [show oneP ([38] ++ [35] ++ [51] ++ [57]) = ([], 0) from oneP_eq (by decide) (fun k => by kernel_rfl)]; decide, by kernel_rfl,
  ⟨by decide, by decide, by decide⟩, oneG 39 39 51 57 (by kernel_rfl) (by kernel_rfl) (by kernel_rfl) (by decide) (by kernel_rfl) (by kernel_rfl) rfl⟩
 r43 := ⟨⟨by decide, by decide, by decide⟩, by rw [show oneP ([38] ++ [35]) = ([], 0) from oneP_eq (by decide) (fun k => by kernel_rfl)]; decide, by kernel_rfl,
  ⟨by decide, by decide, by decide⟩, by rw [show oneP ([38] ++ [35] ++ [52]) = ([], 0) from oneP_eq (by decide) (fun k => by kernel_rfl)]; decide, by kernel_rfl,
  ⟨by decide, by decide, by decide⟩, by rw [show oneP ([38] ++ [35] ++ [52] ++ [51]) = ([], 0) from oneP_eq (by decide) (fun k => by kernel_rfl)]; decide, by kernel_rfl,
  ⟨by decide, by decide, by decide⟩, oneG 43 43 52 51 (by kernel_rfl) (by kernel_rfl) (by kernel_rfl) (by decide) (by kernel_rfl) (by kernel_rfl) rfl⟩
end Go.Mu
