/-
  lex: what the splitter's action does.
-/
import Derived.Test.YtlbmedmddoljnaaDoorLSpl
set_option linter.unusedVariables false
set_option linter.unusedSimpArgs false
set_option maxRecDepth 100000
namespace Go.Mu
open Go Go.Proofs
theorem can_w' (l : List UInt8) (w : Nat) : CanB (.ptr (.hp 3) 2) (bfB 7 l w) (l.map byteRow) w := ⟨.inr rfl, by rw [bytesOf_map], by rw [bytesOf_map]⟩
theorem acIn_len (s : List UInt8) (at_ : Nat) : (acIn s at_).length ≤ s.length := by unfold acIn; simp; omega
theorem trimsU_len (l : List UInt8) : (trimsU (trimsT l)).length ≤ l.length := by
  have e1 : ∀ l, (trimsT l).length ≤ l.length := fun l => by unfold trimsT; cases trimsA l <;> simp
  have e2 : ∀ l, (trimsU l).length ≤ l.length := fun l => by unfold trimsU; cases trimsZ l <;> simp
  exact Nat.le_trans (e2 _) (e1 _)
section
variable {U0 U1 U2 : Obj} {s : List UInt8} {ad b : AVal} {a : Int} {tr : Bool} {u : Nat} {orows rows : List (List AVal)} {v : Nat} {at_ : Nat}
theorem act_good1 (hv : CanB ad b rows v) (h1 : at_ + 2 ≤ s.length) (hs : s.length ≤ 1073741824) (hp : (bytesOf rows).length ≤ 1073741824) (hn : orows.length ≤ 1073741824) (hb : acBad s at_ = false) (hR : rmIs s at_ = true) (k : Out → Ans) :
    iFun Tryd.prog (layX5.hd Tryd.prog) layX5.fhs 0 28 [.ptr (.hp 3) 0, .int .i64 at_] (HsP U0 U1 U2 s (.own 5 0 orows.length u false) ad b a tr (.arr 3 orows u) (.arr 1 rows v)) k =
      k (.ret (.int .i64 (acTo s at_ + 2)) (actionM ⟨U0, U1, U2, s, .own 5 0 orows.length u false, ad, b, a, tr, .arr 3 orows u, rows, v⟩ at_).heap) := by
  obtain ⟨f1, f2, f3, f4⟩ := acFrom_le s at_ hb h1
  have h4 : rmN s at_ ≥ 0 := by
    unfold acBad at hb
    rw [hR] at hb
    simp only [Bool.true_and, Bool.or_eq_false_iff, Bool.not_eq_false', decide_eq_true_eq] at hb
    exact hb.1
  have h8 := index_le (s.drop (rmF s at_)) [42, 47]
  have h9 : (s.drop (rmF s at_)).length ≤ s.length := by simp
  have h10 : rmF s at_ ≤ s.length + 2 := by unfold rmF; omega
  have h11 : rmN s at_ ≤ s.length := by unfold rmN; omega
  have htr := trimR_len (bytesOf rows)
  have hi := acIn_len s at_
  have hi2 := trimsU_len (acIn s at_)
  have hco : CanO (.own 5 0 orows.length u false) (.arr 3 orows u) := ⟨rfl, rfl⟩
  have key := action_fun U0 U1 U2 s ad b a tr orows.length u orows rows v at_ k
  simp only [Int.toNat_natCast] at key
  replace key := key _ rfl _ rfl _ rfl _ rfl (acTo s at_) (by unfold acTo acFrom; rw [hR]; rfl)
    ((at_ + 2 : Nat) : Int) (by rw [wrap_of (by omega) (by omega)]; omega) true (by rw [dT (by omega)]) (at_ + 2) (by omega) (acIn s at_) rfl
    true (by rw [tst_true ⟨⟨hv, hp⟩, .refl _, trivial⟩]) false (by rw [dF (by omega)]) _ rfl _ rfl (trimR (bytesOf rows)) (by rw [e_map, bytesOf_map])
    true (by rw [tst_true ⟨⟨can_w' _ _, hco, by omega, hn⟩, .refl _, trivial⟩]) _ rfl _ rfl true (by rw [dT (by omega)])
    (flN (cutM ⟨U0, U1, U2, s, .own 5 0 orows.length u false, ad, b, a, tr, .arr 3 orows u, rows, v⟩)) rfl _ rfl _ rfl _ rfl _ rfl _ rfl
    true (by rw [dT (by have := bif_le (flN (cutM ⟨U0, U1, U2, s, .own 5 0 orows.length u false, ad, b, a, tr, .arr 3 orows u, rows, v⟩)) orows.length; omega)]; cases flN (cutM ⟨U0, U1, U2, s, .own 5 0 orows.length u false, ad, b, a, tr, .arr 3 orows u, rows, v⟩) <;> simp)
  replace key := key _ rfl _ rfl _ rfl _ rfl _ rfl _ rfl _ rfl _ rfl _ rfl _ rfl _ rfl _ rfl _ rfl _ rfl _ rfl _ rfl _ rfl _ rfl
  refine key.trans ?_
  clear key
  rw [dT (show 0 ≤ (at_ : Int) ∧ (at_ : Int) + 2 ≤ (s.length : Int) ∧ s.length ≤ 1073741824 by omega), cond_true, hR, cond_true, dT h4, cond_true, dT (show (rmF s at_ : Int) + rmN s at_ + 2 ≥ 0 by omega), cond_true,
    dT (show 0 ≤ (rmF s at_ : Int) + rmN s at_ + 2 ∧ (rmF s at_ : Int) + rmN s at_ + 2 ≤ 1099511627776 ∧ s.length ≤ 1099511627776 by omega), cond_true, dT (show acTo s at_ ≥ 0 by omega), Bool.not_true, cond_false,
    dT (show ((at_ + 2 : Nat) : Int) ≤ acTo s at_ by omega), dT (show acTo s at_ ≤ (s.length : Int) by omega), Bool.and_self, Bool.and_self, cond_true, dT (show (acIn s at_).length ≤ 1099511627776 by omega), cond_true, wrap_of (n := acTo s at_ + 2) (by omega) (by omega)]
  unfold actionM acM
  simp only [hR, cond_true]
  cases hA : trimsA (acIn s at_) <;> rfl
theorem act_good2 (hv : CanB ad b rows v) (h1 : at_ + 2 ≤ s.length) (hs : s.length ≤ 1073741824) (hp : (bytesOf rows).length ≤ 1073741824) (hn : orows.length ≤ 1073741824) (hb : acBad s at_ = false) (hR : rmIs s at_ = false) (k : Out → Ans) :
    iFun Tryd.prog (layX5.hd Tryd.prog) layX5.fhs 0 28 [.ptr (.hp 3) 0, .int .i64 at_] (HsP U0 U1 U2 s (.own 5 0 orows.length u false) ad b a tr (.arr 3 orows u) (.arr 1 rows v)) k =
      k (.ret (.int .i64 (acTo s at_ + 2)) (actionM ⟨U0, U1, U2, s, .own 5 0 orows.length u false, ad, b, a, tr, .arr 3 orows u, rows, v⟩ at_).heap) := by
  obtain ⟨f1, f2, f3, f4⟩ := acFrom_le s at_ hb h1
  have htr := trimR_len (bytesOf rows)
  have hi := acIn_len s at_
  have hi2 := trimsU_len (acIn s at_)
  have hco : CanO (.own 5 0 orows.length u false) (.arr 3 orows u) := ⟨rfl, rfl⟩
  have key := action_fun U0 U1 U2 s ad b a tr orows.length u orows rows v at_ k
  simp only [Int.toNat_natCast] at key
  have hT : acTo s at_ = win (s.drop (at_ + 2)) false false (at_ + 2) := by unfold acTo acFrom; rw [hR]; rfl
  replace key := key _ rfl _ rfl _ rfl _ rfl _ rfl
    ((at_ + 2 : Nat) : Int) (by rw [wrap_of (by omega) (by omega)]; omega) true (by rw [dT (by omega)]) (at_ + 2) (by omega) _ rfl
    true (by rw [tst_true ⟨⟨hv, hp⟩, .refl _, trivial⟩]) _ rfl _ rfl _ rfl _ rfl
    true (by rw [tst_true ⟨⟨can_w' _ _, hco, by rw [e_map, bytesOf_map]; omega, hn⟩, .refl _, trivial⟩]) _ rfl _ rfl _ rfl
    (flN (cutM ⟨U0, U1, U2, s, .own 5 0 orows.length u false, ad, b, a, tr, .arr 3 orows u, rows, v⟩)) rfl _ rfl _ rfl _ rfl _ rfl _ rfl
    true (by rw [dT (by have := bif_le (flN (cutM ⟨U0, U1, U2, s, .own 5 0 orows.length u false, ad, b, a, tr, .arr 3 orows u, rows, v⟩)) orows.length; omega)]; cases flN (cutM ⟨U0, U1, U2, s, .own 5 0 orows.length u false, ad, b, a, tr, .arr 3 orows u, rows, v⟩) <;> simp)
  replace key := key _ rfl
    true (by rw [tst_true ⟨⟨hv, hco, hp, hn⟩, .refl _, trivial⟩])
    (flN ⟨U0, U1, U2, s, .own 5 0 orows.length u false, ad, b, a, tr, .arr 3 orows u, rows, v⟩) rfl _ rfl _ rfl _ rfl
    true (by rw [dT (by have := bif_le (flN ⟨U0, U1, U2, s, .own 5 0 orows.length u false, ad, b, a, tr, .arr 3 orows u, rows, v⟩) orows.length; omega)]; cases flN ⟨U0, U1, U2, s, .own 5 0 orows.length u false, ad, b, a, tr, .arr 3 orows u, rows, v⟩ <;> simp)
    _ rfl true (by rw [dT (by omega)]) (acTo s at_) hT false (by rw [dT (by omega)]; rfl) true (by rw [dT (by omega), dT (by omega)]; rfl) (acIn s at_) rfl true (by rw [dT (by omega)]) _ rfl _ rfl _ rfl true (by rw [dT (by omega)])
  refine key.trans ?_
  clear key
  rw [dT (show 0 ≤ (at_ : Int) ∧ (at_ : Int) + 2 ≤ (s.length : Int) ∧ s.length ≤ 1073741824 by omega), cond_true, hR, cond_false, wrap_of (n := acTo s at_ + 2) (by omega) (by omega)]
  unfold actionM acM
  simp only [hR, cond_false]
  cases hA : trimsA (acIn s at_) <;> rfl
theorem act_bad (h1 : at_ + 2 ≤ s.length) (hs : s.length ≤ 1073741824) (hb : acBad s at_ = true) (k : Out → Ans) :
    iFun Tryd.prog (layX5.hd Tryd.prog) layX5.fhs 0 28 [.ptr (.hp 3) 0, .int .i64 at_] (HsP U0 U1 U2 s (.own 5 0 orows.length u false) ad b a tr (.arr 3 orows u) (.arr 1 rows v)) k =
      k (.panic (.iface 56 (.agg [.int .i64 at_, .int .i64 8])) (HsP U0 U1 U2 s (.own 5 0 orows.length u false) ad b a tr (.arr 3 orows u) (.arr 1 rows v))) := by
  have key := action_fun U0 U1 U2 s ad b a tr orows.length u orows rows v at_ k
  simp only [Int.toNat_natCast] at key
  have h5 : ((at_ + 2 : Nat) : Int) = IntKind.i64.wrap ((at_ : Int) + 2) := by rw [wrap_of (by omega) (by omega)]; omega
  have h8 := index_le (s.drop (rmF s at_)) [42, 47]
  have h9 : (s.drop (rmF s at_)).length ≤ s.length := by simp
  have h10 : rmF s at_ ≤ s.length + 2 := by unfold rmF; omega
  have h11 : rmN s at_ ≤ s.length := by unfold rmN; omega
  unfold acBad at hb
  cases hR : rmIs s at_ with
  | true =>
    rw [hR] at hb
    replace key := key _ rfl _ rfl _ rfl _ rfl (acTo s at_) (by unfold acTo acFrom; rw [hR]; rfl)
      ((at_ + 2 : Nat) : Int) h5 _ rfl (at_ + 2) (by omega) _ rfl _ rfl _ rfl _ rfl _ rfl _ rfl _ rfl _ rfl _ rfl _ rfl _ rfl _ rfl _ rfl _ rfl _ rfl _ rfl _ rfl
    replace key := key _ rfl _ rfl _ rfl _ rfl _ rfl _ rfl _ rfl _ rfl _ rfl _ rfl _ rfl _ rfl _ rfl _ rfl _ rfl _ rfl _ rfl _ rfl
    refine key.trans ?_
    clear key
    rw [dT (show 0 ≤ (at_ : Int) ∧ (at_ : Int) + 2 ≤ (s.length : Int) ∧ s.length ≤ 1073741824 by omega), cond_true, hR, cond_true]
    by_cases h4 : rmN s at_ ≥ 0
    · have h7 : ¬ acTo s at_ ≥ 0 := by
        rw [dT h4] at hb
        simpa using hb
      rw [dT h4, cond_true, dT (show (rmF s at_ : Int) + rmN s at_ + 2 ≥ 0 by omega), cond_true,
        dT (show 0 ≤ (rmF s at_ : Int) + rmN s at_ + 2 ∧ (rmF s at_ : Int) + rmN s at_ + 2 ≤ 1099511627776 ∧ s.length ≤ 1099511627776 by omega), cond_true, dF h7]
      rfl
    · rw [dF h4]
      rfl
  | false =>
    rw [hR] at hb
    have hT : acTo s at_ = win (s.drop (at_ + 2)) false false (at_ + 2) := by unfold acTo acFrom; rw [hR]; rfl
    have h7 : ¬ acTo s at_ ≥ 0 := by simpa using hb
    replace key := key _ rfl _ rfl _ rfl _ rfl _ rfl
      ((at_ + 2 : Nat) : Int) h5 _ rfl (at_ + 2) (by omega) _ rfl _ rfl _ rfl _ rfl _ rfl _ rfl _ rfl _ rfl _ rfl _ rfl _ rfl _ rfl _ rfl _ rfl _ rfl _ rfl _ rfl
    replace key := key _ rfl _ rfl _ rfl _ rfl _ rfl _ rfl _ rfl _ rfl true (by rw [dT (by omega)]) (acTo s at_) hT true (by rw [dF h7]; rfl) _ rfl _ rfl _ rfl _ rfl _ rfl _ rfl _ rfl
    refine key.trans ?_
    clear key
    rw [dT (show 0 ≤ (at_ : Int) ∧ (at_ : Int) + 2 ≤ (s.length : Int) ∧ s.length ≤ 1073741824 by omega), cond_true, hR, cond_false]
    rfl
end
theorem action_call (x : SpH) (at_ : Nat) (hx : Can x) (ho : CanO x.o x.O) (h1 : at_ + 2 ≤ x.s.length) (hs : x.s.length ≤ 1073741824) (hp : (bytesOf x.rows).length ≤ 1073741824) (hn : (rowsO x.O).length ≤ 1073741824) (k : Out → Ans) :
    iFun Tryd.prog (layX5.hd Tryd.prog) layX5.fhs 0 28 [.ptr (.hp 3) 0, .int .i64 at_] x.heap k =
      cond (acBad x.s at_) (k (.panic (.iface 56 (.agg [.int .i64 at_, .int .i64 8])) x.heap)) (k (.ret (.int .i64 (acTo x.s at_ + 2)) (actionM x at_).heap)) := by
  obtain ⟨U0, U1, U2, s, o, ad, b, a, tr, O, rows, v⟩ := x
  obtain ⟨h2, h3⟩ := ho
  simp only at hp hx hn h1 h2 h3 hs
  have hv : CanB ad b rows v := hx
  generalize hro : rowsO O = orows at *
  generalize hve : verO O = u at *
  subst h2 h3
  simp only
  cases hb : acBad s at_ with
  | true => exact act_bad h1 hs hb k
  | false =>
    cases hR : rmIs s at_ with
    | true => exact act_good1 hv h1 hs hp hn hb hR k
    | false => exact act_good2 hv h1 hs hp hn hb hR k
end Go.Mu
