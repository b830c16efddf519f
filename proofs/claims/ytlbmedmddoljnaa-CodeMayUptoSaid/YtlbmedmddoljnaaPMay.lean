/-
  What pipes.Check and muslinref19.May tell of a pipeline.
-/
import Derived.Test.YtlbmedmddoljnaaPCall
set_option linter.unusedVariables false
set_option linter.unusedSimpArgs false
set_option maxRecDepth 100000
namespace Go.Mu
open Go Go.Proofs
theorem condF (x y : Bool) : cond x y false = (x && y) := by cases x <;> rfl
def cBad (c : CallD) : Bool := c.args.any (fun a => !argB a)
def cCnt (c : CallD) (b : Bool) : Int := cond b ((c.args.length : Int) + 1) c.args.length
/-- may a call be? -/
def callB (c : CallD) (b : Bool) : Bool := !cBad c && cond (c.name == []) (!b && ((c.args.length : Int) == 1)) ((ar c.name).2.2 && decide ((ar c.name).1 ≤ cCnt c b) && decide (cCnt c b ≤ (ar c.name).2.1))
theorem pCall_fun (c : CallD) (b : Bool) (k : Out → Ans) : iFun Try.prog (layG.hd Try.prog) layG.fhs 0 84 [.agg (encCall c), .bool b] [] k =
    cond (wfL wfArg (encL c.af encArg argD0 c.args) && true && ((c.args.length : Int) == (lenL (encL c.af encArg argD0 c.args) : Int)) && true && decide (lenL (encL c.af encArg argD0 c.args) ≤ 1099511627776) && true)
      (cond ((decL decArg (encL c.af encArg argD0 c.args)).any (fun a => !argB a)) (k (.ret (.bool false) []))
        (cond (c.name == []) (k (.ret (.bool (cond (!b) ((c.args.length : Int) == 1) false)) []))
          (cond b (k (.ret (.bool (cond (cond (ar c.name).2.2 (decide (IntKind.i64.wrap ((c.args.length : Int) + 1) ≥ (ar c.name).1)) false) (decide (IntKind.i64.wrap ((c.args.length : Int) + 1) ≤ (ar c.name).2.1)) false)) []))
            (k (.ret (.bool (cond (cond (ar c.name).2.2 (decide ((c.args.length : Int) ≥ (ar c.name).1)) false) (decide ((c.args.length : Int) ≤ (ar c.name).2.1)) false)) []))))) none := by kernel_rfl
theorem pCall_call {c : CallD} (h : okCall c) (b : Bool) (k : Out → Ans) : iFun Try.prog (layG.hd Try.prog) layG.fhs 0 84 [.agg (encCall c), .bool b] [] k = k (.ret (.bool (callB c b)) []) := by
  have hl := h.1
  rw [pCall_fun, decL_encL (g := decArg) decArg_enc, wfL_of (fun a ha => wfArg_enc (h.2.1 a ha)), wrap_add1 (by omega), show decide (lenL (encL c.af encArg argD0 c.args) ≤ 1099511627776) = true from decide_eq_true hl, show lenL (encL c.af encArg argD0 c.args) = c.args.length from rfl]
  simp only [beq_self_eq_true, Bool.and_self, cond_true]
  unfold callB cCnt
  rw [show c.args.any (fun a => !argB a) = cBad c from rfl]
  generalize cBad c = b1
  generalize (c.name == []) = b2
  generalize (ar c.name).2.2 = b3
  have e : (((c.args.length + 1 : Nat) : Int)) = (c.args.length : Int) + 1 := by omega
  rw [e]
  simp only [ge_iff_le]
  cases b1 <;> cases b2 <;> cases b3 <;> cases b <;> simp only [cond_true, cond_false, condF, Bool.not_true, Bool.not_false, Bool.true_and, Bool.false_and]
noncomputable def callTold : FSp := fun xs H k => match xs, H with
  | [.agg c, .bool b], [] => cond (tst (c = encCall (decCall c) ∧ okCall (decCall c))) (k (.ret (.bool (callB (decCall c) b)) [])) none
  | _, _ => none
theorem callTold_ok (xs : List AVal) (H : Heap) (k : Out → Ans) (out : Out) (ho : callTold xs H k = some out) : ∃ o, CallOK Try.prog 84 xs H o ∧ k o = some out := by
  unfold callTold at ho
  split at ho
  · rename_i c b
    rw [Bool.cond_eq_ite] at ho
    split at ho
    · rename_i hc
      obtain ⟨h1, h2⟩ := of_tst hc
      generalize decCall c = a at h1 h2 ho
      subst h1
      exact ⟨_, layG_ok.call (pCall_call h2 b), ho⟩
    · simp at ho
  · simp at ho
noncomputable def layH : Lay := layG.addF 84 callTold
theorem layH_ok : layH.OK Try.prog := layG_ok.addF callTold_ok

def okPipe (l : List CallD) : Prop := l.length ≤ 1099511627776 ∧ ∀ c ∈ l, okCall c
abbrev encPipe (full : Bool) (l : List CallD) : AVal := encL full encCall callD0 l
theorem decPipe_enc (full : Bool) (l : List CallD) : decL decCall (encPipe full l) = l := decL_encL decCall_enc l
def cHit (l : List CallD) (i : Nat) : Bool := !callB (l.getD i callD0) (decide (0 < i))
/-- may a pipeline be? -/
def pipeB (l : List CallD) : Bool := decide (1 ≤ l.length ∧ l.length ≤ 16) && !(List.range l.length).any (cHit l)
/- pipes.Check -/
noncomputable def chkSp : LSp := fun vs bs H k => match vs with
  | [x, .int .i64 n, .int .i64 z] => cond (tst (x = encPipe (fullOf x) (decL decCall x) ∧ okPipe (decL decCall x) ∧ n = (decL decCall x).length ∧ z = 0 ∧ bs = []))
      (cond ((List.range (decL decCall x).length).any (cHit (decL decCall x))) (k .ret [.int .i64 9] [] H) (k (.exit 0) [.undef] [] H)) none
  | _ => none
noncomputable def chkFH : FH := .of [(4, loopSpec 26 [13,14,15] [] [2] [] chkSp)]
noncomputable abbrev chkTurn := lturn Try.prog layH chkFH 64 4 [13,14,15] [] [2] []
abbrev chkSt (full : Bool) (l : List CallD) (i : Int) (H : Heap) (D : List (FuncId × List AVal)) : St := stL 26 [13,14,15] [encPipe full l, .int .i64 l.length, .int .i64 i] [] [] H D
theorem chk_step0 (full : Bool) (l : List CallD) (i : Nat) (H : Heap) (D : List (FuncId × List AVal)) (k : Kont) : chkTurn (chkSt full l i H D) k =
    cond (decide ((i : Int) < l.length)) (cond (decide ((i : Int) < l.length))
      (cond (tst (encCall (l.getD (i : Int).toNat callD0) = encCall (decCall (encCall (l.getD (i : Int).toNat callD0))) ∧ okCall (decCall (encCall (l.getD (i : Int).toNat callD0)))))
        (cond (!callB (decCall (encCall (l.getD (i : Int).toNat callD0))) (decide ((i : Int) > 0))) (k .ret (stL 26 [2] [.int .i64 9] [] [] H D)) (k .normal (chkSt full l (IntKind.i64.wrap ((i : Int) + 1)) H D))) none) none)
      (k (.exit 0) (stL 26 [2] [.undef] [] [] H D)) := by kernel_rfl
theorem pos_cast (i : Nat) : decide ((i : Int) > 0) = decide (0 < i) := by
  rw [Bool.eq_iff_iff]; simp
theorem chkSp_ok : SpOK chkTurn 26 [13,14,15] [] [2] [] chkSp := by
  intro vs bs H k out ho
  unfold chkSp at ho
  split at ho
  case h_2 => simp at ho
  rename_i x n z
  rw [Bool.cond_eq_ite] at ho
  split at ho
  case isFalse => simp at ho
  rename_i hc
  obtain ⟨hx, hk, rfl, rfl, rfl⟩ := of_tst hc
  generalize fullOf x = full at hx
  generalize decL decCall x = l at hx hk ho
  subst hx
  have hn := hk.1
  have hrun := fun D k => search_any (turn := chkTurn) (S := fun i => chkSt full l (i : Nat) H D) (hit := cHit l) (n := l.length) (e0 := .exit 0) (e1 := .ret) (R0 := stL 26 [2] [.undef] [] [] H D) (R1 := stL 26 [2] [.int .i64 9] [] [] H D)
    (fun i k hi => by
      rw [chk_step0, decide_eq_true (show (i : Int) < l.length by omega), wrap_add1 (by omega), decCall_enc, Int.toNat_natCast, tst_true ⟨rfl, getD_ok hk.2 hi⟩, pos_cast]; rfl)
    (fun k => by rw [chk_step0, decide_eq_false (by omega)]; rfl) (by simp) (by simp) k
  cases ha : (List.range l.length).any (cHit l) with
  | true =>
    rw [ha] at ho
    exact ⟨_, _, _, _, _, _, .refl _, ⟨_, fun D k => (hrun D k).trans (by rw [ha]; rfl)⟩, .refl _, ho⟩
  | false =>
    rw [ha] at ho
    exact ⟨_, _, _, _, _, _, .refl _, ⟨_, fun D k => (hrun D k).trans (by rw [ha]; rfl)⟩, .refl _, ho⟩
noncomputable def layI : Lay := layH.addL 64 chkFH
theorem layI_ok : layI.OK Try.prog := layH_ok.loop1 (id := 4) (by kernel_rfl) (by kernel_rfl) (by kernel_rfl) chkSp_ok
/- muslinref19.May -/
noncomputable def may7 : LSp := fun vs bs H k => match vs with
  | [x, .int .i64 i, .int .i64 z] => cond (tst (x = encPipe (fullOf x) (decL decCall x) ∧ okPipe (decL decCall x) ∧ z = 0 ∧ 0 ≤ i ∧ i < (decL decCall x).length ∧ bs = []))
      (cond (cBad ((decL decCall x).getD i.toNat callD0)) (k .ret [x, .bool false, .int .i64 i] [] H) (k (.exit 2) [x, .undef, .int .i64 i] [] H)) none
  | _ => none
noncomputable def may4 : LSp := fun vs bs H k => match vs with
  | [x, .int .i64 z] => cond (tst (x = encPipe (fullOf x) (decL decCall x) ∧ okPipe (decL decCall x) ∧ z = 0 ∧ bs = []))
      (cond ((List.range (decL decCall x).length).any (cHit (decL decCall x))) (k .ret [.bool false] [] H) (k (.exit 0) [.undef] [] H)) none
  | _ => none
noncomputable def mayFH : FH := .of [(4, loopSpec 87 [0,3] [] [2] [] may4), (7, loopSpec 87 [0,3,4] [] [0,2,3] [] may7)]
noncomputable abbrev may7Turn := lturn Try.prog layI mayFH 45 7 [0,3,4] [] [0,2,3] []
noncomputable abbrev may4Turn := lturn Try.prog layI mayFH 45 4 [0,3] [] [2] []

theorem may7_step0 (full : Bool) (l : List CallD) (i j : Nat) (H : Heap) (D : List (FuncId × List AVal)) (k : Kont) : may7Turn (stL 87 [0,3,4] [encPipe full l, .int .i64 i, .int .i64 j] [] [] H D) k =
    cond (decide ((i : Int) < l.length)) (cond (decide ((j : Int) < (l.getD (i : Int).toNat callD0).args.length)) (cond (decide ((i : Int) < l.length)) (cond (decide ((j : Int) < (l.getD (i : Int).toNat callD0).args.length))
      (cond (tst (encArg ((l.getD (i : Int).toNat callD0).args.getD (j : Int).toNat argD0) = encArg (decArg (encArg ((l.getD (i : Int).toNat callD0).args.getD (j : Int).toNat argD0))) ∧ okArg (decArg (encArg ((l.getD (i : Int).toNat callD0).args.getD (j : Int).toNat argD0)))))
        (cond (!argB (decArg (encArg ((l.getD (i : Int).toNat callD0).args.getD (j : Int).toNat argD0)))) (k .ret (stL 87 [0,2,3] [encPipe full l, .bool false, .int .i64 i] [] [] H D)) (k .normal (stL 87 [0,3,4] [encPipe full l, .int .i64 i, .int .i64 (IntKind.i64.wrap ((j : Int) + 1))] [] [] H D))) none) none) none)
      (k (.exit 2) (stL 87 [0,2,3] [encPipe full l, .undef, .int .i64 i] [] [] H D))) none := by kernel_rfl
theorem may7_ok : SpOK may7Turn 87 [0,3,4] [] [0,2,3] [] may7 := by
  intro vs bs H k out ho
  unfold may7 at ho
  split at ho
  case h_2 => simp at ho
  rename_i x i z
  rw [Bool.cond_eq_ite] at ho
  split at ho
  case isFalse => simp at ho
  rename_i hc
  obtain ⟨hx, hk, rfl, hi0, hi1, rfl⟩ := of_tst hc
  generalize fullOf x = full at hx
  generalize decL decCall x = l at hx hk ho hi1
  subst hx
  obtain ⟨i, rfl⟩ : ∃ n : Nat, i = n := ⟨i.toNat, by omega⟩
  have hi : i < l.length := by omega
  have hcl : okCall (l.getD i callD0) := getD_ok hk.2 hi
  have hrun := fun D k => search_any (turn := may7Turn) (S := fun j => stL 87 [0,3,4] [encPipe full l, .int .i64 i, .int .i64 (j : Nat)] [] [] H D) (hit := fun j => !argB ((l.getD i callD0).args.getD j argD0)) (n := (l.getD i callD0).args.length) (e0 := .exit 2) (e1 := .ret)
    (R0 := stL 87 [0,2,3] [encPipe full l, .undef, .int .i64 i] [] [] H D) (R1 := stL 87 [0,2,3] [encPipe full l, .bool false, .int .i64 i] [] [] H D)
    (fun j k hj => by
      have := hcl.1
      rw [may7_step0, decide_eq_true hi1, Int.toNat_natCast, Int.toNat_natCast, decide_eq_true (show (j : Int) < ((l.getD i callD0).args.length : Int) by omega), wrap_add1 (by omega), decArg_enc, tst_true ⟨rfl, getD_ok hcl.2.1 hj⟩]; rfl)
    (fun k => by rw [may7_step0, decide_eq_true hi1, Int.toNat_natCast, decide_eq_false (by omega)]; rfl) (by simp) (by simp) k
  have ea : (List.range (l.getD i callD0).args.length).any (fun j => !argB ((l.getD i callD0).args.getD j argD0)) = cBad (l.getD i callD0) := any_getD (fun a => !argB a) _ argD0
  rw [ea] at hrun
  rw [Int.toNat_natCast] at ho
  cases ha : cBad (l.getD i callD0) with
  | true =>
    rw [ha] at ho
    exact ⟨_, _, _, _, _, _, .refl _, ⟨_, fun D k => (hrun D k).trans (by rw [ha]; rfl)⟩, .refl _, ho⟩
  | false =>
    rw [ha] at ho
    exact ⟨_, _, _, _, _, _, .refl _, ⟨_, fun D k => (hrun D k).trans (by rw [ha]; rfl)⟩, .refl _, ho⟩
abbrev may4Nx (full : Bool) (l : List CallD) (i : Nat) (H : Heap) (D : List (FuncId × List AVal)) : St := stL 87 [0,3] [encPipe full l, .int .i64 (IntKind.i64.wrap ((i : Int) + 1))] [] [] H D
abbrev may4Re (H : Heap) (D : List (FuncId × List AVal)) : St := stL 87 [2] [.bool false] [] [] H D
theorem may4_step0 (full : Bool) (l : List CallD) (i : Nat) (H : Heap) (D : List (FuncId × List AVal)) (k : Kont) : may4Turn (stL 87 [0,3] [encPipe full l, .int .i64 i] [] [] H D) k =
    cond (decide ((i : Int) < l.length)) (cond (tst (encPipe full l = encPipe (fullOf (encPipe full l)) (decL decCall (encPipe full l)) ∧ okPipe (decL decCall (encPipe full l)) ∧ (0 : Int) = 0 ∧ 0 ≤ (i : Int) ∧ (i : Int) < (decL decCall (encPipe full l)).length ∧ ([] : List (List AVal)) = []))
      (cond (cBad ((decL decCall (encPipe full l)).getD (i : Int).toNat callD0)) (k .ret (may4Re H D))
        (cond (decide ((i : Int) < l.length)) (cond (decide ((i : Int) < l.length))
          (cond ((l.getD (i : Int).toNat callD0).name == []) (cond (cond (decide ((i : Int) > 0)) true (((l.getD (i : Int).toNat callD0).args.length : Int) != 1)) (k .ret (may4Re H D)) (k .normal (may4Nx full l i H D)))
            (cond (decide ((i : Int) > 0)) (cond (decide ((i : Int) < l.length))
                (cond (cond (cond (!(ar (l.getD (i : Int).toNat callD0).name).2.2) true (decide (IntKind.i64.wrap (((l.getD (i : Int).toNat callD0).args.length : Int) + 1) < (ar (l.getD (i : Int).toNat callD0).name).1))) true (decide (IntKind.i64.wrap (((l.getD (i : Int).toNat callD0).args.length : Int) + 1) > (ar (l.getD (i : Int).toNat callD0).name).2.1))) (k .ret (may4Re H D)) (k .normal (may4Nx full l i H D))) none)
              (cond (decide ((i : Int) < l.length))
                (cond (cond (cond (!(ar (l.getD (i : Int).toNat callD0).name).2.2) true (decide (((l.getD (i : Int).toNat callD0).args.length : Int) < (ar (l.getD (i : Int).toNat callD0).name).1))) true (decide (((l.getD (i : Int).toNat callD0).args.length : Int) > (ar (l.getD (i : Int).toNat callD0).name).2.1))) (k .ret (may4Re H D)) (k .normal (may4Nx full l i H D))) none))) none) none)) none)
      (k (.exit 0) (stL 87 [2] [.undef] [] [] H D)) := by kernel_rfl
theorem not_lt_dec (a b : Int) : decide (a < b) = !decide (b ≤ a) := by rw [Bool.eq_iff_iff]; simp
theorem may4_step (full : Bool) (l : List CallD) (i : Nat) (H : Heap) (D : List (FuncId × List AVal)) (k : Kont) (hk : okPipe l) (hi : i < l.length) : may4Turn (stL 87 [0,3] [encPipe full l, .int .i64 i] [] [] H D) k =
    cond (cHit l i) (k .ret (may4Re H D)) (k .normal (stL 87 [0,3] [encPipe full l, .int .i64 ((i + 1 : Nat) : Int)] [] [] H D)) := by
  have hn := hk.1
  have hcl : okCall (l.getD i callD0) := getD_ok hk.2 hi
  have hal := hcl.1
  rw [may4_step0, decPipe_enc, decide_eq_true (show (i : Int) < l.length by omega), tst_true ⟨rfl, hk, rfl, by omega, by omega, rfl⟩, Int.toNat_natCast]
  unfold may4Nx
  rw [wrap_add1 (show i < _ by omega), wrap_add1 (show (l.getD i callD0).args.length < _ by omega), pos_cast]
  unfold cHit callB cCnt
  have e : (((l.getD i callD0).args.length + 1 : Nat) : Int) = ((l.getD i callD0).args.length : Int) + 1 := by omega
  rw [e]
  simp only [gt_iff_lt, not_lt_dec, cond_true]
  rw [show (((l.getD i callD0).args.length : Int) != 1) = (!(((l.getD i callD0).args.length : Int) == 1)) from rfl]
  generalize cBad (l.getD i callD0) = b1
  generalize ((l.getD i callD0).name == []) = b2
  generalize (ar (l.getD i callD0).name).2.2 = b3
  generalize (((l.getD i callD0).args.length : Int) == 1) = b4
  generalize decide (0 < i) = b5
  cases b5
  · simp only [cond_false]
    generalize decide ((ar (l.getD i callD0).name).1 ≤ ((l.getD i callD0).args.length : Int)) = b6
    generalize decide (((l.getD i callD0).args.length : Int) ≤ (ar (l.getD i callD0).name).2.1) = b7
    cases b1 <;> cases b2 <;> cases b3 <;> cases b4 <;> cases b6 <;> cases b7 <;> rfl
  · simp only [cond_true]
    generalize decide ((ar (l.getD i callD0).name).1 ≤ ((l.getD i callD0).args.length : Int) + 1) = b6
    generalize decide (((l.getD i callD0).args.length : Int) + 1 ≤ (ar (l.getD i callD0).name).2.1) = b7
    cases b1 <;> cases b2 <;> cases b3 <;> cases b4 <;> cases b6 <;> cases b7 <;> rfl

theorem may4_ok : SpOK may4Turn 87 [0,3] [] [2] [] may4 := by
  intro vs bs H k out ho
  unfold may4 at ho
  split at ho
  case h_2 => simp at ho
  rename_i x z
  rw [Bool.cond_eq_ite] at ho
  split at ho
  case isFalse => simp at ho
  rename_i hc
  obtain ⟨hx, hk, rfl, rfl⟩ := of_tst hc
  generalize fullOf x = full at hx
  generalize decL decCall x = l at hx hk ho
  subst hx
  have hrun := fun D k => search_any (turn := may4Turn) (S := fun i => stL 87 [0,3] [encPipe full l, .int .i64 (i : Nat)] [] [] H D) (hit := cHit l) (n := l.length) (e0 := .exit 0) (e1 := .ret) (R0 := stL 87 [2] [.undef] [] [] H D) (R1 := stL 87 [2] [.bool false] [] [] H D)
    (fun i k hi => may4_step full l i H D k hk hi)
    (fun k => by rw [may4_step0, decide_eq_false (by omega)]; rfl) (by simp) (by simp) k
  cases ha : (List.range l.length).any (cHit l) with
  | true =>
    rw [ha] at ho
    exact ⟨_, _, _, _, _, _, .refl _, ⟨_, fun D k => (hrun D k).trans (by rw [ha]; rfl)⟩, .refl _, ho⟩
  | false =>
    rw [ha] at ho
    exact ⟨_, _, _, _, _, _, .refl _, ⟨_, fun D k => (hrun D k).trans (by rw [ha]; rfl)⟩, .refl _, ho⟩
theorem may7_told : LOk Try.prog mayFH (loopAt 7 (codeOf Try.prog 45)) := LOk.of _ (fun d hd => by
  have e2 : loopsIn (loopAt 7 (codeOf Try.prog 45)) = [] := by kernel_rfl
  rw [e2] at hd; cases hd)
theorem may_loops : LOk Try.prog mayFH (codeOf Try.prog 45) := by
  have t7 : LoopTold Try.prog (loopAt 7 (codeOf Try.prog 45)) (loopSpec 87 [0,3,4] [] [0,2,3] [] may7) := layI_ok.told may7_told may7_ok
  have f7 : mayFH.loops (firstRegion (loopAt 7 (codeOf Try.prog 45))) = some (loopSpec 87 [0,3,4] [] [0,2,3] [] may7) := by kernel_rfl
  have f4 : mayFH.loops (firstRegion (loopAt 4 (codeOf Try.prog 45))) = some (loopSpec 87 [0,3] [] [2] [] may4) := by kernel_rfl
  have e4 : loopsIn (loopAt 4 (codeOf Try.prog 45)) = [loopAt 7 (codeOf Try.prog 45)] := by kernel_rfl
  have e : loopsIn (codeOf Try.prog 45) = [loopAt 4 (codeOf Try.prog 45), loopAt 7 (codeOf Try.prog 45)] := by kernel_rfl
  have t4 : LoopTold Try.prog (loopAt 4 (codeOf Try.prog 45)) (loopSpec 87 [0,3] [] [2] [] may4) := layI_ok.told (LOk.of _ (fun d hd sp hsp => by
    rw [e4, List.mem_singleton] at hd
    subst hd
    rw [f7, Option.some.injEq] at hsp
    subst hsp
    exact t7)) may4_ok
  refine LOk.of _ (fun d hd sp hsp => ?_)
  rw [e, List.mem_cons, List.mem_singleton] at hd
  rcases hd with rfl | rfl
  · rw [f4, Option.some.injEq] at hsp
    subst hsp; exact t4
  · rw [f7, Option.some.injEq] at hsp
    subst hsp; exact t7
noncomputable def layJ : Lay := layI.addL 45 mayFH
theorem layJ_ok : layJ.OK Try.prog := layI_ok.addL may_loops

theorem chk_fun (full : Bool) (l : List CallD) (k : Out → Ans) : iFun Try.prog (layJ.hd Try.prog) layJ.fhs 0 64 [encPipe full l] [] k =
    cond (cond (decide ((l.length : Int) < 1)) true (decide ((l.length : Int) > 16))) (k (.ret (.int .i64 9) []))
      (cond (tst (encPipe full l = encPipe (fullOf (encPipe full l)) (decL decCall (encPipe full l)) ∧ okPipe (decL decCall (encPipe full l)) ∧ (l.length : Int) = (decL decCall (encPipe full l)).length ∧ (0 : Int) = 0 ∧ ([] : List (List AVal)) = []))
        (cond ((List.range (decL decCall (encPipe full l)).length).any (cHit (decL decCall (encPipe full l)))) (k (.ret (.int .i64 9) [])) (k (.ret (.int .i64 0) []))) none) := by kernel_rfl
theorem may_fun (full : Bool) (l : List CallD) (k : Out → Ans) : iFun Try.prog (layJ.hd Try.prog) layJ.fhs 0 45 [encPipe full l] [] k =
    cond (cond (decide ((l.length : Int) < 1)) true (decide ((l.length : Int) > 16))) (k (.ret (.bool false) []))
      (cond (tst (encPipe full l = encPipe (fullOf (encPipe full l)) (decL decCall (encPipe full l)) ∧ okPipe (decL decCall (encPipe full l)) ∧ (0 : Int) = 0 ∧ ([] : List (List AVal)) = []))
        (cond ((List.range (decL decCall (encPipe full l)).length).any (cHit (decL decCall (encPipe full l)))) (k (.ret (.bool false) [])) (k (.ret (.bool true) []))) none) := by kernel_rfl
theorem len_cond (l : List CallD) : cond (decide ((l.length : Int) < 1)) true (decide ((l.length : Int) > 16)) = !decide (1 ≤ l.length ∧ l.length ≤ 16) := by
  by_cases h : 1 ≤ l.length ∧ l.length ≤ 16
  · rw [decide_eq_true h, decide_eq_false (show ¬ (l.length : Int) < 1 by omega), decide_eq_false (show ¬ (l.length : Int) > 16 by omega)]; rfl
  · rw [decide_eq_false h]
    by_cases h1 : l.length < 1
    · rw [decide_eq_true (show (l.length : Int) < 1 by omega)]; rfl
    · rw [decide_eq_false (show ¬ (l.length : Int) < 1 by omega), decide_eq_true (show (l.length : Int) > 16 by omega)]; rfl
theorem chk_call {l : List CallD} (h : okPipe l) (full : Bool) (k : Out → Ans) : iFun Try.prog (layJ.hd Try.prog) layJ.fhs 0 64 [encPipe full l] [] k = k (.ret (.int .i64 (cond (pipeB l) 0 9)) []) := by
  rw [chk_fun, len_cond, decPipe_enc, tst_true ⟨rfl, h, rfl, rfl, rfl⟩]
  unfold pipeB
  cases decide (1 ≤ l.length ∧ l.length ≤ 16) <;> cases (List.range l.length).any (cHit l) <;> rfl
theorem may_call {l : List CallD} (h : okPipe l) (full : Bool) (k : Out → Ans) : iFun Try.prog (layJ.hd Try.prog) layJ.fhs 0 45 [encPipe full l] [] k = k (.ret (.bool (pipeB l)) []) := by
  rw [may_fun, len_cond, decPipe_enc, tst_true ⟨rfl, h, rfl, rfl⟩]
  unfold pipeB
  cases decide (1 ≤ l.length ∧ l.length ≤ 16) <;> cases (List.range l.length).any (cHit l) <;> rfl
noncomputable def chkTold : FSp := fun xs H k => match xs, H with
  | [x], [] => cond (tst (x = encPipe (fullOf x) (decL decCall x) ∧ okPipe (decL decCall x))) (k (.ret (.int .i64 (cond (pipeB (decL decCall x)) 0 9)) [])) none
  | _, _ => none
noncomputable def mayTold : FSp := fun xs H k => match xs, H with
  | [x], [] => cond (tst (x = encPipe (fullOf x) (decL decCall x) ∧ okPipe (decL decCall x))) (k (.ret (.bool (pipeB (decL decCall x))) [])) none
  | _, _ => none
theorem chkTold_ok (xs : List AVal) (H : Heap) (k : Out → Ans) (out : Out) (ho : chkTold xs H k = some out) : ∃ o, CallOK Try.prog 64 xs H o ∧ k o = some out := by
  unfold chkTold at ho
  split at ho
  · rename_i x
    rw [Bool.cond_eq_ite] at ho
    split at ho
    · rename_i hc
      obtain ⟨h1, h2⟩ := of_tst hc
      generalize decL decCall x = l at h1 h2 ho
      generalize fullOf x = full at h1
      subst h1
      exact ⟨_, layJ_ok.call (chk_call h2 full), ho⟩
    · simp at ho
  · simp at ho
theorem mayTold_ok (xs : List AVal) (H : Heap) (k : Out → Ans) (out : Out) (ho : mayTold xs H k = some out) : ∃ o, CallOK Try.prog 45 xs H o ∧ k o = some out := by
  unfold mayTold at ho
  split at ho
  · rename_i x
    rw [Bool.cond_eq_ite] at ho
    split at ho
    · rename_i hc
      obtain ⟨h1, h2⟩ := of_tst hc
      generalize decL decCall x = l at h1 h2 ho
      generalize fullOf x = full at h1
      subst h1
      exact ⟨_, layJ_ok.call (may_call h2 full), ho⟩
    · simp at ho
  · simp at ho
noncomputable def layK : Lay := (layJ.addF 64 chkTold).addF 45 mayTold
theorem layK_ok : layK.OK Try.prog := (layJ_ok.addF chkTold_ok).addF mayTold_ok
end Go.Mu
