/-
  What muslinlaw22.there and muslinlaw22.in tell.
-/
import Derived.Test.YtlbmedmddoljnaaRTop
set_option linter.unusedVariables false
set_option linter.unusedSimpArgs false
set_option maxRecDepth 100000
namespace Go.Mu
open Go Go.Proofs
section
variable (full : Bool) (defs : List DefD)
noncomputable def thSp : LSp := fun vs bs H k => match vs with
  | [x, .str s, .int .i64 z] => cond (tst (x = encDefs full defs ∧ z = 0 ∧ bs = [])) (cond (defs.any (isNm s)) (k .ret [.bool true] [] H) (k (.exit 0) [.undef] [] H)) none
  | _ => none
noncomputable def thFH : FH := .of [(2, loopSpec 19 [0,1,5] [] [4] [] (thSp full defs))]
noncomputable abbrev thTurn := lturn Try.prog .nil (thFH full defs) 15 2 [0,1,5] [] [4] []
abbrev thSt (s : Nm) (i : Int) (H : Heap) (D : List (FuncId × List AVal)) : St := stL 19 [0,1,5] [encDefs full defs, .str s, .int .i64 i] [] [] H D
theorem th_step0 (s : Nm) (i : Nat) (H : Heap) (D : List (FuncId × List AVal)) (k : Kont) : thTurn full defs (thSt full defs s i H D) k =
    cond (decide ((i : Int) < defs.length)) (cond (decide ((i : Int) < defs.length)) (cond ((defs.getD (i : Int).toNat def0).name == s) (k .ret (stL 19 [4] [.bool true] [] [] H D)) (k .normal (thSt full defs s (IntKind.i64.wrap ((i : Int) + 1)) H D))) none)
      (k (.exit 0) (stL 19 [4] [.undef] [] [] H D)) := by kernel_rfl
theorem thSp_ok (hd : defs.length < 1099511627776) : SpOK (thTurn full defs) 19 [0,1,5] [] [4] [] (thSp full defs) := by
  intro vs bs H k out ho
  unfold thSp at ho
  split at ho
  case h_2 => simp at ho
  rename_i x s z
  rw [Bool.cond_eq_ite] at ho
  split at ho
  case isFalse => simp at ho
  rename_i hc
  obtain ⟨rfl, rfl, rfl⟩ := of_tst hc
  have hrun := fun D k => search_any (turn := thTurn full defs) (S := fun i => thSt full defs s (i : Nat) H D) (hit := fun i => isNm s (defs.getD i def0)) (n := defs.length) (e0 := .exit 0) (e1 := .ret) (R0 := stL 19 [4] [.undef] [] [] H D) (R1 := stL 19 [4] [.bool true] [] [] H D)
    (fun i k hi => by rw [th_step0, decide_eq_true (show (i : Int) < defs.length by omega), wrap_add1 (by omega), Int.toNat_natCast]; rfl)
    (fun k => by rw [th_step0, decide_eq_false (by omega)]; rfl) (by simp) (by simp) k
  rw [any_getD (isNm s)] at hrun
  cases ha : defs.any (isNm s) with
  | true =>
    rw [ha] at ho
    exact ⟨_, _, _, _, _, _, .refl _, ⟨_, fun D k => (hrun D k).trans (by rw [ha]; rfl)⟩, .refl _, ho⟩
  | false =>
    rw [ha] at ho
    exact ⟨_, _, _, _, _, _, .refl _, ⟨_, fun D k => (hrun D k).trans (by rw [ha]; rfl)⟩, .refl _, ho⟩
noncomputable def layTh : Lay := Lay.nil.addL 15 (thFH full defs)
theorem layTh_ok (hd : defs.length < 1099511627776) : (layTh full defs).OK Try.prog := Lay.nil_ok.loop1 (id := 2) (by kernel_rfl) (by kernel_rfl) (by kernel_rfl) (thSp_ok full defs hd)
theorem th_fun (s : Nm) (k : Out → Ans) : iFun Try.prog ((layTh full defs).hd Try.prog) (layTh full defs).fhs 0 15 [encDefs full defs, .str s] [] k =
    cond (tst (encDefs full defs = encDefs full defs ∧ (0 : Int) = 0 ∧ ([] : List (List AVal)) = [])) (cond (defs.any (isNm s)) (k (.ret (.bool true) [])) (k (.ret (.bool false) []))) none := by kernel_rfl
noncomputable def thTold : FSp := fun xs H k => match xs, H with
  | [x, .str s], [] => cond (tst (x = encDefs full defs)) (k (.ret (.bool (thD defs s)) [])) none
  | _, _ => none
theorem thTold_ok (hd : defs.length < 1099511627776) (xs : List AVal) (H : Heap) (k : Out → Ans) (out : Out) (ho : thTold full defs xs H k = some out) : ∃ o, CallOK Try.prog 15 xs H o ∧ k o = some out := by
  unfold thTold at ho
  split at ho
  · rename_i x s
    rw [Bool.cond_eq_ite] at ho
    split at ho
    · rename_i hc
      have := of_tst hc
      subst this
      refine ⟨_, (layTh_ok full defs hd).call (o := .ret (.bool (thD defs s)) []) (fun k => ?_), ho⟩
      rw [th_fun, tst_true ⟨rfl, rfl, rfl⟩]
      show cond (thD defs s) _ _ = _
      cases thD defs s <;> rfl
    · simp at ho
  · simp at ho
end
noncomputable def inSp : LSp := fun vs bs H k => match vs with
  | [x, .str s, .int .i64 z] => cond (tst (x = encSs false (decL decS x) ∧ (decL decS x).length < 1099511627776 ∧ z = 0 ∧ bs = [])) (cond ((decL decS x).any (fun e => e == s)) (k .ret [.bool true] [] H) (k (.exit 0) [.undef] [] H)) none
  | _ => none
noncomputable def inFH : FH := .of [(2, loopSpec 18 [0,1,5] [] [4] [] inSp)]
noncomputable abbrev inTurn := lturn Try.prog .nil inFH 16 2 [0,1,5] [] [4] []
abbrev inSt (l : List Nm) (s : Nm) (i : Int) (H : Heap) (D : List (FuncId × List AVal)) : St := stL 18 [0,1,5] [encSs false l, .str s, .int .i64 i] [] [] H D
theorem in_step0 (l : List Nm) (s : Nm) (i : Nat) (H : Heap) (D : List (FuncId × List AVal)) (k : Kont) : inTurn (inSt l s i H D) k =
    cond (decide ((i : Int) < l.length)) (cond (decide ((i : Int) < l.length)) (cond (l.getD (i : Int).toNat [] == s) (k .ret (stL 18 [4] [.bool true] [] [] H D)) (k .normal (inSt l s (IntKind.i64.wrap ((i : Int) + 1)) H D))) none)
      (k (.exit 0) (stL 18 [4] [.undef] [] [] H D)) := by kernel_rfl
theorem inSp_ok : SpOK inTurn 18 [0,1,5] [] [4] [] inSp := by
  intro vs bs H k out ho
  unfold inSp at ho
  split at ho
  case h_2 => simp at ho
  rename_i x s z
  rw [Bool.cond_eq_ite] at ho
  split at ho
  case isFalse => simp at ho
  rename_i hc
  obtain ⟨hx, hd, rfl, rfl⟩ := of_tst hc
  generalize decL decS x = l at *
  subst hx
  have hrun := fun D k => search_any (turn := inTurn) (S := fun i => inSt l s (i : Nat) H D) (hit := fun i => l.getD i [] == s) (n := l.length) (e0 := .exit 0) (e1 := .ret) (R0 := stL 18 [4] [.undef] [] [] H D) (R1 := stL 18 [4] [.bool true] [] [] H D)
    (fun i k hi => by rw [in_step0, decide_eq_true (show (i : Int) < l.length by omega), wrap_add1 (by omega), Int.toNat_natCast]; rfl)
    (fun k => by rw [in_step0, decide_eq_false (by omega)]; rfl) (by simp) (by simp) k
  rw [any_getD (fun e => e == s)] at hrun
  cases ha : l.any (fun e => e == s) with
  | true =>
    rw [ha] at ho
    exact ⟨_, _, _, _, _, _, .refl _, ⟨_, fun D k => (hrun D k).trans (by rw [ha]; rfl)⟩, .refl _, ho⟩
  | false =>
    rw [ha] at ho
    exact ⟨_, _, _, _, _, _, .refl _, ⟨_, fun D k => (hrun D k).trans (by rw [ha]; rfl)⟩, .refl _, ho⟩
noncomputable def layIn : Lay := Lay.nil.addL 16 inFH
theorem layIn_ok : layIn.OK Try.prog := Lay.nil_ok.loop1 (id := 2) (by kernel_rfl) (by kernel_rfl) (by kernel_rfl) inSp_ok
theorem in_fun (l : List Nm) (s : Nm) (k : Out → Ans) : iFun Try.prog (layIn.hd Try.prog) layIn.fhs 0 16 [encSs false l, .str s] [] k =
    cond (tst (encSs false l = encSs false (decL decS (encSs false l)) ∧ (decL decS (encSs false l)).length < 1099511627776 ∧ (0 : Int) = 0 ∧ ([] : List (List AVal)) = [])) (cond ((decL decS (encSs false l)).any (fun e => e == s)) (k (.ret (.bool true) [])) (k (.ret (.bool false) []))) none := by kernel_rfl
noncomputable def inTold : FSp := fun xs H k => match xs, H with
  | [x, .str s], [] => cond (tst (x = encSs false (decL decS x) ∧ (decL decS x).length < 1099511627776)) (k (.ret (.bool ((decL decS x).any (fun e => e == s))) [])) none
  | _, _ => none
theorem inTold_ok (xs : List AVal) (H : Heap) (k : Out → Ans) (out : Out) (ho : inTold xs H k = some out) : ∃ o, CallOK Try.prog 16 xs H o ∧ k o = some out := by
  unfold inTold at ho
  split at ho
  · rename_i x s
    rw [Bool.cond_eq_ite] at ho
    split at ho
    · rename_i hc
      obtain ⟨hx, hn⟩ := of_tst hc
      generalize decL decS x = l at *
      subst hx
      refine ⟨_, layIn_ok.call (o := .ret (.bool (l.any (fun e => e == s))) []) (fun k => ?_), ho⟩
      rw [in_fun, decS_enc, tst_true ⟨rfl, hn, rfl, rfl⟩]
      cases l.any (fun e => e == s) <;> rfl
    · simp at ho
  · simp at ho
/- the law's layer -/
noncomputable def layL0 (d : Nat) (full : Bool) (defs : List DefD) : Lay := ((((Lay.nil.addF 8 aliveTold).addF 13 (reachTold d full defs)).addF 14 (callsTold d)).addF 15 (thTold full defs)).addF 16 inTold
theorem layL0_ok {d : Nat} {full : Bool} {defs : List DefD} (hd : defs.length < 1099511627776) (hw : ∀ x ∈ defs, wfV d x.body ∧ cntV d x.body ≤ 1099511627776) : (layL0 d full defs).OK Try.prog :=
  ((((Lay.nil_ok.addF aliveTold_ok).addF (reachTold_ok hd hw)).addF (callsTold_ok d)).addF (thTold_ok full defs hd)).addF inTold_ok
end Go.Mu
