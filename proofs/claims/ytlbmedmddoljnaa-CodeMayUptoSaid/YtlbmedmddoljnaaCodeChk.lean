/-
  What code.Check tells of a code.
-/
import Derived.Test.YtlbmedmddoljnaaCodeOp
set_option linter.unusedVariables false
set_option linter.unusedSimpArgs false
set_option maxRecDepth 100000
namespace Go.Mu
open Go Go.Proofs
noncomputable def opTold : FSp := fun xs H k => match xs, H with
  | [.agg x, .agg c], [] => cond (tst (x = encOp (decOp x) ∧ c = encCode (decCode c) ∧ okOpD (decOp x))) (k (.ret (.bool (opB (decOp x) (decCode c).ops.length (decCode c).units.length)) [])) none
  | _, _ => none
theorem pOpTold_ok (xs : List AVal) (H : Heap) (k : Out → Ans) (out : Out) (ho : opTold xs H k = some out) : ∃ o, CallOK Try.prog 44 xs H o ∧ k o = some out := by
  unfold opTold at ho
  split at ho
  · rename_i x c
    rw [Bool.cond_eq_ite] at ho
    split at ho
    · rename_i hc
      obtain ⟨hx, hy, hn⟩ := of_tst hc
      generalize decOp x = a at hx hn ho
      generalize decCode c = b at hy ho
      subst hx hy
      exact ⟨_, layU_ok.call (pOp_call hn b), ho⟩
    · simp at ho
  · simp at ho
theorem rOpTold_ok (xs : List AVal) (H : Heap) (k : Out → Ans) (out : Out) (ho : opTold xs H k = some out) : ∃ o, CallOK Try.prog 21 xs H o ∧ k o = some out := by
  unfold opTold at ho
  split at ho
  · rename_i x c
    rw [Bool.cond_eq_ite] at ho
    split at ho
    · rename_i hc
      obtain ⟨hx, hy, hn⟩ := of_tst hc
      generalize decOp x = a at hx hn ho
      generalize decCode c = b at hy ho
      subst hx hy
      exact ⟨_, layU_ok.call (rOp_call hn b), ho⟩
    · simp at ho
  · simp at ho
noncomputable def layV : Lay := (layU.addF 44 opTold).addF 21 opTold
theorem layV_ok : layV.OK Try.prog := (layU_ok.addF pOpTold_ok).addF rOpTold_ok
/- slices.IndexFunc with a function literal that captures a code -/
noncomputable def idxSpH {α : Type} (E : α → List AVal) (d : α) (g : List AVal → α) (okP : α → Prop) (p : CodeD → α → Bool) (cl : FuncId) : LSp := fun vs bs H k => match vs, H with
  | [x, .func c0 [.ptr (.hp 0) 0], .int .i64 n, .int .i64 z], [.var cc] => cond (tst (c0 = cl ∧ cc = encCode (decCode cc) ∧ x = encL (fullOf x) E d (decL g x) ∧ n = (decL g x).length ∧ z = 0 ∧ (decL g x).length ≤ 1099511627776 ∧ (∀ a ∈ decL g x, okP a) ∧ bs = []))
      (cond ((decL g x).any (p (decCode cc))) (k .ret [.int .i64 ((decL g x).findIdx (p (decCode cc)) : Nat)] [] [.var cc]) (k (.exit 0) [.undef] [] [.var cc])) none
  | _, _ => none
abbrev idxStH {α : Type} (E : α → List AVal) (d : α) (cl : FuncId) (full : Bool) (l : List α) (i : Int) (c : CodeD) (D : List (FuncId × List AVal)) : St := stL 19 [0,1,7,8] [encL full E d l, .func cl [.ptr (.hp 0) 0], .int .i64 l.length, .int .i64 i] [] [] [.var (encCode c)] D
theorem idxH_ok {α : Type} {E : α → List AVal} {d : α} {g : List AVal → α} {okP : α → Prop} {p : CodeD → α → Bool} {cl : FuncId} {turn : St → Kont → Ans}
    (h1 : ∀ (full : Bool) (l : List α) (i : Nat) (c : CodeD) (D : List (FuncId × List AVal)) (k : Kont), okP (l.getD i d) → i < l.length → l.length ≤ 1099511627776 → turn (idxStH E d cl full l i c D) k =
      cond (p c (l.getD i d)) (k .ret (stL 19 [4] [.int .i64 i] [] [] [.var (encCode c)] D)) (k .normal (idxStH E d cl full l ((i + 1 : Nat) : Int) c D)))
    (h0 : ∀ (full : Bool) (l : List α) (c : CodeD) (D : List (FuncId × List AVal)) (k : Kont), turn (idxStH E d cl full l l.length c D) k = k (.exit 0) (stL 19 [4] [.undef] [] [] [.var (encCode c)] D)) :
    SpOK turn 19 [0,1,7,8] [] [4] [] (idxSpH E d g okP p cl) := by
  intro vs bs H k out ho
  unfold idxSpH at ho
  split at ho
  case h_2 => simp at ho
  rename_i x c0 n z cc
  rw [Bool.cond_eq_ite] at ho
  split at ho
  case isFalse => simp at ho
  rename_i hc
  obtain ⟨rfl, hcc, hx, rfl, rfl, hn, hok, rfl⟩ := of_tst hc
  generalize fullOf x = full at hx
  generalize decL g x = l at hx hn hok ho
  generalize decCode cc = c at hcc ho
  subst hx hcc
  have hrun : ∀ D k, rounds turn (l.length + 1) (idxStH E d c0 full l 0 c D) k = cond (l.any (p c)) (k .ret (stL 19 [4] [.int .i64 (l.findIdx (p c) : Nat)] [] [] [.var (encCode c)] D)) (k (.exit 0) (stL 19 [4] [.undef] [] [] [.var (encCode c)] D)) := by
    intro D k
    have := search_find (turn := turn) (S := fun i => idxStH E d c0 full l (i : Nat) c D) (hit := fun i => p c (l.getD i d)) (n := l.length) (e0 := .exit 0) (e1 := .ret)
      (R0 := stL 19 [4] [.undef] [] [] [.var (encCode c)] D) (R1 := fun i => stL 19 [4] [.int .i64 (i : Nat)] [] [] [.var (encCode c)] D) (fun i k hi => h1 _ _ _ _ _ _ (getD_ok hok hi) hi hn) (fun k => h0 _ _ _ _ _) (by simp) (by simp) k
    rw [find_getD] at this
    refine Eq.trans this ?_
    cases l.any (p c) <;> rfl
  cases ha : l.any (p c) with
  | true =>
    rw [ha] at ho
    exact ⟨_, _, _, _, _, _, .refl _, ⟨_, fun D k => by rw [hrun, ha]; rfl⟩, .refl _, ho⟩
  | false =>
    rw [ha] at ho
    exact ⟨_, _, _, _, _, _, .refl _, ⟨_, fun D k => by rw [hrun, ha]; rfl⟩, .refl _, ho⟩
def unBad (c : CodeD) (n : Int) : Bool := cond (decide (n < 0)) true (decide (n ≥ (c.ops.length : Int)))
def opBad (c : CodeD) (x : OpD) : Bool := !opB x c.ops.length c.units.length

noncomputable def uFH : FH := .of [(2, loopSpec 19 [0,1,7,8] [] [4] [] (idxSpH encI 0 decI (fun _ => True) unBad 41))]
noncomputable def oFH : FH := .of [(2, loopSpec 19 [0,1,7,8] [] [4] [] (idxSpH encOp opD0 decOp okOpD opBad 43))]
theorem u_step0 (full : Bool) (l : List Int) (i : Nat) (c : CodeD) (D : List (FuncId × List AVal)) (k : Kont) : lturn Try.prog layV uFH 75 2 [0,1,7,8] [] [4] [] (idxStH encI 0 41 full l i c D) k =
    cond (decide ((i : Int) < l.length)) (cond (decide ((i : Int) < l.length)) (cond (unBad c (l.getD (i : Int).toNat 0)) (k .ret (stL 19 [4] [.int .i64 i] [] [] [.var (encCode c)] D)) (k .normal (idxStH encI 0 41 full l (IntKind.i64.wrap ((i : Int) + 1)) c D))) none)
      (k (.exit 0) (stL 19 [4] [.undef] [] [] [.var (encCode c)] D)) := by kernel_rfl
noncomputable def layW : Lay := layV.addL 75 uFH
theorem layW_ok : layW.OK Try.prog := layV_ok.loop1 (id := 2) (by kernel_rfl) (by kernel_rfl) (by kernel_rfl) (idxH_ok (g := decI) (okP := fun _ => True) (fun full l i c D k _ hi hn => by
    rw [u_step0, decide_eq_true (show (i : Int) < l.length by omega), wrap_add1 (by omega), Int.toNat_natCast]; rfl)
    (fun full l c D k => by rw [u_step0, decide_eq_false (by omega)]; rfl))
theorem o_step0 (full : Bool) (l : List OpD) (i : Nat) (c : CodeD) (D : List (FuncId × List AVal)) (k : Kont) : lturn Try.prog layW oFH 76 2 [0,1,7,8] [] [4] [] (idxStH encOp opD0 43 full l i c D) k =
    cond (decide ((i : Int) < l.length)) (cond (decide ((i : Int) < l.length)) (cond (tst (encOp (l.getD (i : Int).toNat opD0) = encOp (decOp (encOp (l.getD (i : Int).toNat opD0))) ∧ encCode c = encCode (decCode (encCode c)) ∧ okOpD (decOp (encOp (l.getD (i : Int).toNat opD0)))))
      (cond (!opB (decOp (encOp (l.getD (i : Int).toNat opD0))) (decCode (encCode c)).ops.length (decCode (encCode c)).units.length) (k .ret (stL 19 [4] [.int .i64 i] [] [] [.var (encCode c)] D)) (k .normal (idxStH encOp opD0 43 full l (IntKind.i64.wrap ((i : Int) + 1)) c D))) none) none)
      (k (.exit 0) (stL 19 [4] [.undef] [] [] [.var (encCode c)] D)) := by kernel_rfl
noncomputable def layX : Lay := layW.addL 76 oFH
theorem layX_ok : layX.OK Try.prog := layW_ok.loop1 (id := 2) (by kernel_rfl) (by kernel_rfl) (by kernel_rfl) (idxH_ok (g := decOp) (okP := okOpD) (p := opBad) (fun full l i c D k ho hi hn => by
    rw [o_step0, decide_eq_true (show (i : Int) < l.length by omega), wrap_add1 (by omega), Int.toNat_natCast, decOp_enc, decCode_enc, tst_true ⟨rfl, rfl, ho⟩]; rfl)
    (fun full l c D k => by rw [o_step0, decide_eq_false (by omega)]; rfl))
def chkFH20 : FH := { heap := [1] }
noncomputable def layY : Lay := layX.addL 20 chkFH20
theorem layY_ok : layY.OK Try.prog := layX_ok.addL (LOk.none (fun _ => rfl) _)
/-- what code.Check answers -/
def codeE (c : CodeD) : Int := cond (c.units.length == 0) 71 (cond (c.units.any (unBad c)) 9 (cond (c.ops.any (opBad c)) 9 0))

theorem codeChk_fun (c : CodeD) (k : Out → Ans) : iFun Try.prog (layY.hd Try.prog) layY.fhs 0 20 [.agg (encCode c)] [] k =
    cond ((c.units.length : Int) == 0) (k (.ret (.int .i64 71) [.var (encCode c)]))
      (cond (tst ((41 : Nat) = 41 ∧ encCode c = encCode (decCode (encCode c)) ∧ (encIs c.uf c.units) = encIs (fullOf (encIs c.uf c.units)) (decL decI (encIs c.uf c.units)) ∧ (c.units.length : Int) = (decL decI (encIs c.uf c.units)).length ∧ (0 : Int) = 0 ∧ (decL decI (encIs c.uf c.units)).length ≤ 1099511627776 ∧ (∀ a ∈ decL decI (encIs c.uf c.units), True) ∧ ([] : List (List AVal)) = []))
        (cond ((decL decI (encIs c.uf c.units)).any (unBad (decCode (encCode c)))) (k (.ret (.int .i64 9) [.var (encCode c)]))
          (cond (tst ((43 : Nat) = 43 ∧ encCode c = encCode (decCode (encCode c)) ∧ (encOps c.of_ c.ops) = encOps (fullOf (encOps c.of_ c.ops)) (decL decOp (encOps c.of_ c.ops)) ∧ (c.ops.length : Int) = (decL decOp (encOps c.of_ c.ops)).length ∧ (0 : Int) = 0 ∧ (decL decOp (encOps c.of_ c.ops)).length ≤ 1099511627776 ∧ (∀ a ∈ decL decOp (encOps c.of_ c.ops), okOpD a) ∧ ([] : List (List AVal)) = []))
            (cond ((decL decOp (encOps c.of_ c.ops)).any (opBad (decCode (encCode c)))) (k (.ret (.int .i64 9) [.var (encCode c)])) (k (.ret (.int .i64 0) [.var (encCode c)]))) none)) none) := by kernel_rfl
theorem len0 {α : Type} (l : List α) : ((l.length : Int) == 0) = (l.length == 0) := by
  rw [Bool.eq_iff_iff]; simp
theorem codeChk_call {c : CodeD} (h : okCode c) (k : Out → Ans) : iFun Try.prog (layY.hd Try.prog) layY.fhs 0 20 [.agg (encCode c)] [] k = k (.ret (.int .i64 (codeE c)) [.var (encCode c)]) := by
  rw [codeChk_fun, decIs_enc, decOps_enc, decCode_enc, len0, tst_true ⟨rfl, rfl, rfl, rfl, rfl, h.2.1, fun _ _ => trivial, rfl⟩, tst_true ⟨rfl, rfl, rfl, rfl, rfl, h.1, h.2.2, rfl⟩]
  unfold codeE
  cases c.units.length == 0 <;> cases c.units.any (unBad c) <;> cases c.ops.any (opBad c) <;> rfl
noncomputable def codeChkTold : FSp := fun xs H k => match xs, H with
  | [.agg x], [] => cond (tst (x = encCode (decCode x) ∧ okCode (decCode x))) (k (.ret (.int .i64 (codeE (decCode x))) [])) none
  | _, _ => none
theorem codeChkTold_ok (xs : List AVal) (H : Heap) (k : Out → Ans) (out : Out) (ho : codeChkTold xs H k = some out) : ∃ o, CallOK Try.prog 20 xs H o ∧ k o = some out := by
  unfold codeChkTold at ho
  split at ho
  · rename_i x
    rw [Bool.cond_eq_ite] at ho
    split at ho
    · rename_i hc
      obtain ⟨hx, hn⟩ := of_tst hc
      generalize decCode x = c at hx hn ho
      subst hx
      exact ⟨_, (layY_ok.call (codeChk_call hn)).freeze (d := 2) (v' := .int .i64 (codeE c)) rfl, ho⟩
    · simp at ho
  · simp at ho
noncomputable def layZ : Lay := layY.addF 20 codeChkTold
theorem layZ_ok : layZ.OK Try.prog := layY_ok.addF codeChkTold_ok
end Go.Mu
