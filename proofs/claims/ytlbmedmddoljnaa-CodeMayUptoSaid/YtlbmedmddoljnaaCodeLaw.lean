/-
  What muslinlaw42.CodeCheck answers: true.
-/
import Derived.Test.YtlbmedmddoljnaaCodeSameR
set_option linter.unusedVariables false
set_option linter.unusedSimpArgs false
set_option maxRecDepth 100000
namespace Go.Mu
open Go Go.Proofs
/- the page's example -/
def alive42Fhs : FuncId → FH := fun f => match f with
  | 18 => { heap := [16] } | 20 => { heap := [1] } | 37 => { heap := [1] } | 72 => { heap := [3] } | _ => {}
theorem alive42_eval (k : Out → Ans) : iAll Try.prog (hd (fun _ => none)) (fun _ => false) alive42Fhs 60 20 17 [] [] k = k (.ret (.bool true) []) := by kernel_rfl
theorem alive42_ok : CallOK Try.prog 17 [] [] (.ret (.bool true) []) :=
  callOK_of (mu_sound (hd_ok (fun g s h => by simp at h)) (.none (fun g i => by unfold alive42Fhs; split <;> rfl)) 60 20) alive42_eval
def alive42Told : FSp := fun xs H k => match xs, H with
  | [], [] => k (.ret (.bool true) [])
  | _, _ => none
theorem alive42Told_ok (xs : List AVal) (H : Heap) (k : Out → Ans) (out : Out) (ho : alive42Told xs H k = some out) : ∃ o, CallOK Try.prog 17 xs H o ∧ k o = some out := by
  unfold alive42Told at ho
  split at ho
  · exact ⟨_, alive42_ok, ho⟩
  · simp at ho
noncomputable def layLa : Lay := layZi.addF 17 alive42Told
theorem layLa_ok : layLa.OK Try.prog := layZi_ok.addF alive42Told_ok
/- loops that end once something is found -/
theorem flag_from {turn : St → Kont → Ans} {S : Int → Nat → St} {hit : Nat → Bool} {n : Nat} {e0 : AExit} {R : Int → St} (h1 : ∀ i k, i < n → turn (S 0 i) k = cond (hit i) (k .normal (S 9 (i + 1))) (k .normal (S 0 (i + 1)))) (h9 : ∀ i k, i ≤ n → turn (S 9 i) k = k e0 (R 9)) (h0 : ∀ k, turn (S 0 n) k = k e0 (R 0)) (he0 : e0 ≠ .normal) (k : Kont) :
    ∀ (m i : Nat), i + m = n → rounds turn (m + 2) (S 0 i) k = k e0 (R (cond ((List.range' i m).any hit) 9 0))
  | 0, i, he => by
    obtain rfl : i = n := by omega
    rw [rounds_succ', h0]
    cases e0 <;> first | exact absurd rfl he0 | rfl
  | m + 1, i, he => by
    rw [rounds_succ', h1 i _ (by omega), List.range'_succ, List.any_cons]
    cases hit i with
    | true =>
      show rounds turn (m + 2) (S 9 (i + 1)) k = _
      rw [rounds_succ', h9 _ _ (by omega)]
      cases e0 <;> first | exact absurd rfl he0 | rfl
    | false => exact flag_from h1 h9 h0 he0 k m (i + 1) (by omega)
noncomputable def fl5 (hits : CodeD → Bool) (id : Nat) : LSp := fun vs bs H k => match vs, bs with
  | [.ptr (.tmp 2) 0, .ptr (.tmp 3) 0, .int .i64 w, .int .i64 z], [x, y] => cond (tst (x = encCode (decCode x) ∧ y = encCode (decCode y) ∧ okCode (decCode x) ∧ z = 0))
      (cond (w == 0) (k (.exit id) [.ptr (.tmp 2) 0, .ptr (.tmp 3) 0, .int .i64 (cond (hits (decCode x)) 9 0)] [x, y] H) (k (.exit id) [.ptr (.tmp 2) 0, .ptr (.tmp 3) 0, .int .i64 w] [x, y] H)) none
  | _, _ => none
def uHits (c : CodeD) : Bool := c.units.any (unBad c)
def oHits (c : CodeD) : Bool := c.ops.any (opBad c)
noncomputable def lawFH : FH := .of [(5, loopSpec 80 [2,3,5,6] [2,3] [2,3,5] [2,3] (fl5 uHits 0)), (10, loopSpec 80 [2,3,5,7] [2,3] [2,3,5] [2,3] (fl5 oHits 2))]
abbrev lawF : Nat := 7
abbrev fSt (s : Nat) (c d : CodeD) (H : Heap) (D : List (FuncId × List AVal)) (w : Int) (i : Int) : St := stL 80 [2,3,5,s] [.ptr (.tmp 2) 0, .ptr (.tmp 3) 0, .int .i64 w, .int .i64 i] [2,3] [encCode c, encCode d] H D
abbrev fRe (c d : CodeD) (H : Heap) (D : List (FuncId × List AVal)) (w : Int) : St := stL 80 [2,3,5] [.ptr (.tmp 2) 0, .ptr (.tmp 3) 0, .int .i64 w] [2,3] [encCode c, encCode d] H D
theorem l5_step0 (c d : CodeD) (w : Int) (i : Nat) (H : Heap) (D : List (FuncId × List AVal)) (k : Kont) : lturn Try.prog layLa lawFH lawF 5 [2,3,5,6] [2,3] [2,3,5] [2,3] (fSt 6 c d H D w i) k =
    cond (cond (decide ((i : Int) < c.units.length)) (w == 0) false) (cond (decide ((i : Int) < c.units.length)) (cond (decide ((i : Int) < c.units.length) || !!decide (c.units.getD (i : Int).toNat 0 < 0))
      (cond (unBad c (c.units.getD (i : Int).toNat 0)) (k .normal (fSt 6 c d H D 9 (IntKind.i64.wrap ((i : Int) + 1)))) (k .normal (fSt 6 c d H D w (IntKind.i64.wrap ((i : Int) + 1))))) none) none)
      (k (.exit 0) (fRe c d H D w)) := by kernel_rfl
theorem l10_step0 (c d : CodeD) (w : Int) (i : Nat) (H : Heap) (D : List (FuncId × List AVal)) (k : Kont) : lturn Try.prog layLa lawFH lawF 10 [2,3,5,7] [2,3] [2,3,5] [2,3] (fSt 7 c d H D w i) k =
    cond (cond (decide ((i : Int) < c.ops.length)) (w == 0) false) (cond (decide ((i : Int) < c.ops.length)) (cond (tst (encOp (c.ops.getD (i : Int).toNat opD0) = encOp (decOp (encOp (c.ops.getD (i : Int).toNat opD0))) ∧ encCode c = encCode (decCode (encCode c)) ∧ okOpD (decOp (encOp (c.ops.getD (i : Int).toNat opD0)))))
      (cond (!opB (decOp (encOp (c.ops.getD (i : Int).toNat opD0))) (decCode (encCode c)).ops.length (decCode (encCode c)).units.length) (k .normal (fSt 7 c d H D 9 (IntKind.i64.wrap ((i : Int) + 1)))) (k .normal (fSt 7 c d H D w (IntKind.i64.wrap ((i : Int) + 1))))) none) none)
      (k (.exit 2) (fRe c d H D w)) := by kernel_rfl

theorem fl_ok {turn : St → Kont → Ans} {s id : Nat} {hits : CodeD → Bool} {hit : CodeD → Nat → Bool} {n : CodeD → Nat} (hh : ∀ c, hits c = (List.range (n c)).any (hit c))
    (h1 : ∀ c d H D i k, okCode c → i < n c → turn (fSt s c d H D 0 (i : Nat)) k = cond (hit c i) (k .normal (fSt s c d H D 9 ((i + 1 : Nat) : Int))) (k .normal (fSt s c d H D 0 ((i + 1 : Nat) : Int))))
    (h2 : ∀ c d H D (w : Int) (i : Nat) k, (w ≠ 0 ∨ i = n c) → turn (fSt s c d H D w i) k = k (.exit id) (fRe c d H D w)) : SpOK turn 80 [2,3,5,s] [2,3] [2,3,5] [2,3] (fl5 hits id) := by
  intro vs bs H k out ho
  unfold fl5 at ho
  split at ho
  case h_2 => simp at ho
  rename_i w z x y
  rw [Bool.cond_eq_ite] at ho
  split at ho
  case isFalse => simp at ho
  rename_i hc
  obtain ⟨hx, hy, hk, rfl⟩ := of_tst hc
  generalize decCode x = c at hx hk ho
  generalize decCode y = d at hy ho
  subst hx hy
  cases hw : (w == 0) with
  | true =>
    rw [hw] at ho
    obtain rfl : w = 0 := by simpa using hw
    have hrun := fun D k => flag_from (turn := turn) (S := fun w i => fSt s c d H D w (i : Nat)) (hit := hit c) (n := n c) (e0 := .exit id) (R := fRe c d H D) (fun i k hi => h1 c d H D i k hk hi) (fun i k hi => h2 c d H D 9 i k (.inl (by omega))) (fun k => h2 c d H D 0 _ k (.inr rfl)) (by simp) k (n c) 0 (by omega)
    rw [← List.range_eq_range', ← hh] at hrun
    exact ⟨_, _, _, _, _, _, .refl _, ⟨_, fun D k => hrun D k⟩, .refl _, ho⟩
  | false =>
    rw [hw] at ho
    have hw' : w ≠ 0 := by simpa using hw
    exact ⟨_, _, _, _, _, _, .refl _, ⟨1, fun D k => by rw [rounds_succ']; exact h2 c d H D w 0 _ (.inl hw')⟩, .refl _, ho⟩
theorem l5_ok : SpOK (lturn Try.prog layLa lawFH lawF 5 [2,3,5,6] [2,3] [2,3,5] [2,3]) 80 [2,3,5,6] [2,3] [2,3,5] [2,3] (fl5 uHits 0) :=
  fl_ok (n := fun c => c.units.length) (hit := fun c i => unBad c (c.units.getD i 0)) (fun c => (any_getD (unBad c) c.units 0).symm)
    (fun c d H D i k hc hi => by
      have := hc.2.1
      rw [l5_step0, decide_eq_true (show (i : Int) < c.units.length by omega), wrap_add1 (by omega), Int.toNat_natCast]; rfl)
    (fun c d H D w i k h => by
      rw [l5_step0]
      rcases h with h | h
      · have : (w == 0) = false := beq_false_of_ne h
        rw [this]; cases decide ((i : Int) < c.units.length) <;> rfl
      · rw [decide_eq_false (show ¬ (i : Int) < c.units.length by omega)]; rfl)
theorem l10_ok : SpOK (lturn Try.prog layLa lawFH lawF 10 [2,3,5,7] [2,3] [2,3,5] [2,3]) 80 [2,3,5,7] [2,3] [2,3,5] [2,3] (fl5 oHits 2) :=
  fl_ok (n := fun c => c.ops.length) (hit := fun c i => opBad c (c.ops.getD i opD0)) (fun c => (any_getD (opBad c) c.ops opD0).symm)
    (fun c d H D i k hc hi => by
      have := hc.1
      rw [l10_step0, decide_eq_true (show (i : Int) < c.ops.length by omega), wrap_add1 (by omega), Int.toNat_natCast, decOp_enc, decCode_enc, tst_true ⟨rfl, rfl, getD_ok hc.2.2 hi⟩]; rfl)
    (fun c d H D w i k h => by
      rw [l10_step0]
      rcases h with h | h
      · have : (w == 0) = false := beq_false_of_ne h
        rw [this]; cases decide ((i : Int) < c.ops.length) <;> rfl
      · rw [decide_eq_false (show ¬ (i : Int) < c.ops.length by omega)]; rfl)
theorem law_loops : LOk Try.prog lawFH (codeOf Try.prog lawF) := by
  have f5 : lawFH.loops (firstRegion (loopAt 5 (codeOf Try.prog lawF))) = some (loopSpec 80 [2,3,5,6] [2,3] [2,3,5] [2,3] (fl5 uHits 0)) := by kernel_rfl
  have f10 : lawFH.loops (firstRegion (loopAt 10 (codeOf Try.prog lawF))) = some (loopSpec 80 [2,3,5,7] [2,3] [2,3,5] [2,3] (fl5 oHits 2)) := by kernel_rfl
  have e : loopsIn (codeOf Try.prog lawF) = [loopAt 5 (codeOf Try.prog lawF), loopAt 10 (codeOf Try.prog lawF)] := by kernel_rfl
  have e5 : loopsIn (loopAt 5 (codeOf Try.prog lawF)) = [] := by kernel_rfl
  have e10 : loopsIn (loopAt 10 (codeOf Try.prog lawF)) = [] := by kernel_rfl
  refine LOk.of _ (fun d hd sp hsp => ?_)
  rw [e, List.mem_cons, List.mem_singleton] at hd
  rcases hd with rfl | rfl
  · rw [f5, Option.some.injEq] at hsp
    subst hsp; exact layLa_ok.told (LOk.of _ (fun d hd => by rw [e5] at hd; cases hd)) l5_ok
  · rw [f10, Option.some.injEq] at hsp
    subst hsp; exact layLa_ok.told (LOk.of _ (fun d hd => by rw [e10] at hd; cases hd)) l10_ok
noncomputable def layLb : Lay := layLa.addL lawF lawFH
theorem layLb_ok : layLb.OK Try.prog := layLa_ok.addL law_loops
end Go.Mu
