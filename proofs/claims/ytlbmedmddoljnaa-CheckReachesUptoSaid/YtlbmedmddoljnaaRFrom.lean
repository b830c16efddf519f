/-
  What check.Reaches$1 does: its parts.
-/
import Derived.Test.YtlbmedmddoljnaaRCallsF
import Derived.Test.YtlbmedmddoljnaaRDfs
set_option linter.unusedVariables false
set_option linter.unusedSimpArgs false
set_option maxRecDepth 100000
namespace Go.Mu
open Go Go.Proofs
structure DefD where
  name : Nm
  bf : Bool
  bn : Nat
  br : Nat → List AVal
def def0 : DefD := ⟨[], true, 0, fun _ => []⟩
def DefD.body (x : DefD) : AVal := .list x.bf x.bn x.br
def encDef (x : DefD) : List AVal := [.str x.name, .list x.bf x.bn x.br]
def decDef (r : List AVal) : DefD := ⟨strOf (cAt r 0), fullOf (cAt r 1), lenL (cAt r 1), rowOf (cAt r 1)⟩
theorem decDef_enc (x : DefD) : decDef (encDef x) = x := rfl
noncomputable def wfDef (r : List AVal) : Bool := tst (r = encDef (decDef r))
theorem wfDef_sub (r : List AVal) (h : wfDef r = true) : SubL r (encDef (decDef r)) := by rw [← of_tst h]; exact .refl _
theorem wfDef_enc (x : DefD) : wfDef (encDef x) = true := tst_true rfl
abbrev encDefs (full : Bool) (l : List DefD) : AVal := encL full encDef def0 l
theorem decDefs_enc (full : Bool) (l : List DefD) : decL decDef (encDefs full l) = l := decL_encL decDef_enc l

/- check.Reaches$1$1: has a template this name? -/
def nmAt : Nat → Heap → Nm
  | 3, [_, _, _, .var [.str s]] => s
  | 5, [_, _, _, _, _, .var [.str s]] => s
  | _, _ => []
def nmIs : Nat → Heap → Bool
  | 3, [_, _, _, .var [.str _]] => true
  | 5, [_, _, _, _, _, .var [.str _]] => true
  | _, _ => false
theorem r11_fun3 (x : DefD) (a b c : Obj) (s : Nm) (k : Out → Ans) : iFun Try.prog (Lay.nil.hd Try.prog) Lay.nil.fhs 0 34 [.agg (encDef x), .ptr (.hp 3) 0] [a, b, c, .var [.str s]] k = k (.ret (.bool (x.name == s)) [a, b, c, .var [.str s]]) := by kernel_rfl
theorem r11_fun5 (x : DefD) (a b c d e : Obj) (s : Nm) (k : Out → Ans) : iFun Try.prog (Lay.nil.hd Try.prog) Lay.nil.fhs 0 34 [.agg (encDef x), .ptr (.hp 5) 0] [a, b, c, d, e, .var [.str s]] k = k (.ret (.bool (x.name == s)) [a, b, c, d, e, .var [.str s]]) := by kernel_rfl
theorem nm_cases {j : Nat} {H : Heap} (h : nmIs j H = true) : (∃ a b c s, j = 3 ∧ H = [a, b, c, .var [.str s]]) ∨ (∃ a b c d e s, j = 5 ∧ H = [a, b, c, d, e, .var [.str s]]) := by
  unfold nmIs at h
  split at h
  · exact .inl ⟨_, _, _, _, rfl, rfl⟩
  · exact .inr ⟨_, _, _, _, _, _, rfl, rfl⟩
  · simp at h
noncomputable def r11Told : FSp := fun xs H k => match xs with
  | [.agg x, .ptr (.hp j) 0] => cond (tst (x = encDef (decDef x) ∧ nmIs j H = true)) (k (.ret (.bool ((decDef x).name == nmAt j H)) H)) none
  | _ => none
theorem r11Told_ok (xs : List AVal) (H : Heap) (k : Out → Ans) (out : Out) (ho : r11Told xs H k = some out) : ∃ o, CallOK Try.prog 34 xs H o ∧ k o = some out := by
  unfold r11Told at ho
  split at ho
  · rename_i x j
    rw [Bool.cond_eq_ite] at ho
    split at ho
    · rename_i hc
      obtain ⟨hx, hj⟩ := of_tst hc
      generalize decDef x = y at hx ho
      subst hx
      rcases nm_cases hj with ⟨a, b, c, s, rfl, rfl⟩ | ⟨a, b, c, d, e, s, rfl, rfl⟩
      · exact ⟨_, Lay.nil_ok.call (r11_fun3 y a b c s), ho⟩
      · exact ⟨_, Lay.nil_ok.call (r11_fun5 y a b c d e s), ho⟩
    · simp at ho
  · simp at ho
noncomputable def layR1 : Lay := Lay.nil.addF 34 r11Told
theorem layR1_ok : layR1.OK Try.prog := Lay.nil_ok.addF r11Told_ok
/- slices.IndexFunc with it -/
abbrev isNm (s : Nm) (x : DefD) : Bool := x.name == s
noncomputable def idxRSp : LSp := fun vs bs H k => match vs with
  | [x, .func c [.ptr (.hp j) 0], .int .i64 n, .int .i64 z] => cond (tst (c = 34 ∧ nmIs j H = true ∧ wfL wfDef x = true ∧ n = (lenL x : Int) ∧ z = 0 ∧ lenL x ≤ 1099511627776 ∧ bs = []))
      (cond ((decL decDef x).any (isNm (nmAt j H))) (k .ret [.int .i64 ((decL decDef x).findIdx (isNm (nmAt j H)) : Nat)] [] H) (k (.exit 0) [.undef] [] H)) none
  | _ => none
noncomputable def idxRFH : FH := .of [(2, loopSpec 19 [0,1,7,8] [] [4] [] idxRSp)]
noncomputable abbrev idxRTurn := lturn Try.prog layR1 idxRFH 33 2 [0,1,7,8] [] [4] []
abbrev idxRSt (full : Bool) (l : List DefD) (j : Nat) (i : Int) (H : Heap) (D : List (FuncId × List AVal)) : St := stL 19 [0,1,7,8] [encDefs full l, .func 34 [.ptr (.hp j) 0], .int .i64 l.length, .int .i64 i] [] [] H D
theorem idxR_step0 (full : Bool) (l : List DefD) (j i : Nat) (H : Heap) (D : List (FuncId × List AVal)) (k : Kont) : idxRTurn (idxRSt full l j i H D) k =
    cond (decide ((i : Int) < l.length)) (cond (decide ((i : Int) < l.length)) (cond (tst (encDef (l.getD (i : Int).toNat def0) = encDef (decDef (encDef (l.getD (i : Int).toNat def0))) ∧ nmIs j H = true))
      (cond ((decDef (encDef (l.getD (i : Int).toNat def0))).name == nmAt j H) (k .ret (stL 19 [4] [.int .i64 i] [] [] H D)) (k .normal (idxRSt full l j (IntKind.i64.wrap ((i : Int) + 1)) H D))) none) none)
      (k (.exit 0) (stL 19 [4] [.undef] [] [] H D)) := by kernel_rfl
theorem idxRSp_ok : SpOK idxRTurn 19 [0,1,7,8] [] [4] [] idxRSp := by
  intro vs bs H k out ho
  unfold idxRSp at ho
  split at ho
  case h_2 => simp at ho
  rename_i x c j n z
  rw [Bool.cond_eq_ite] at ho
  split at ho
  case isFalse => simp at ho
  rename_i hc
  obtain ⟨rfl, hj, hx, rfl, rfl, hn, rfl⟩ := of_tst hc
  have hl2 : (decL decDef x).length = lenL x := lenL_decL (g := decDef) hx
  have hs : SubT x (encDefs (fullOf x) (decL decDef x)) := subT_encL hx wfDef_sub
  rw [← hl2] at hn ⊢
  generalize decL decDef x = l at *
  have hrun : ∀ D k, rounds idxRTurn (l.length + 1) (idxRSt (fullOf x) l j 0 H D) k = cond (l.any (isNm (nmAt j H))) (k .ret (stL 19 [4] [.int .i64 (l.findIdx (isNm (nmAt j H)) : Nat)] [] [] H D)) (k (.exit 0) (stL 19 [4] [.undef] [] [] H D)) := by
    intro D k
    have := search_find (turn := idxRTurn) (S := fun i => idxRSt (fullOf x) l j (i : Nat) H D) (hit := fun i => isNm (nmAt j H) (l.getD i def0)) (n := l.length) (e0 := .exit 0) (e1 := .ret)
      (R0 := stL 19 [4] [.undef] [] [] H D) (R1 := fun i => stL 19 [4] [.int .i64 (i : Nat)] [] [] H D) (fun i k hi => by
        rw [idxR_step0, decide_eq_true (show (i : Int) < l.length by omega), wrap_add1 (by omega), tst_true ⟨by rw [decDef_enc], hj⟩, decDef_enc]; rfl) (fun k => by rw [idxR_step0, decide_eq_false (by omega)]; rfl) (by simp) (by simp) k
    rw [find_getD (isNm (nmAt j H))] at this
    refine Eq.trans this ?_
    cases l.any (isNm (nmAt j H)) <;> rfl
  cases ha : l.any (isNm (nmAt j H)) with
  | true =>
    rw [ha] at ho
    exact ⟨_, _, _, _, _, _, .cons hs (.refl _), ⟨_, fun D k => by rw [hrun, ha]; rfl⟩, .refl _, ho⟩
  | false =>
    rw [ha] at ho
    exact ⟨_, _, _, _, _, _, .cons hs (.refl _), ⟨_, fun D k => by rw [hrun, ha]; rfl⟩, .refl _, ho⟩
noncomputable def layR2 : Lay := layR1.addL 33 idxRFH
theorem layR2_ok : layR2.OK Try.prog := layR1_ok.loop1 (id := 2) (by kernel_rfl) (by kernel_rfl) (by kernel_rfl) idxRSp_ok
theorem idxR_fun (full : Bool) (l : List DefD) (j : Nat) (H : Heap) (k : Out → Ans) : iFun Try.prog (layR2.hd Try.prog) layR2.fhs 0 33 [encDefs full l, .func 34 [.ptr (.hp j) 0]] H k =
    cond (tst ((34 : Nat) = 34 ∧ nmIs j H = true ∧ wfL wfDef (encDefs full l) = true ∧ (l.length : Int) = (lenL (encDefs full l) : Int) ∧ (0 : Int) = 0 ∧ lenL (encDefs full l) ≤ 1099511627776 ∧ ([] : List (List AVal)) = []))
      (cond ((decL decDef (encDefs full l)).any (isNm (nmAt j H))) (k (.ret (.int .i64 ((decL decDef (encDefs full l)).findIdx (isNm (nmAt j H)) : Nat)) H)) (k (.ret (.int .i64 (-1)) H))) none := by kernel_rfl
/-- slices.IndexFunc over templates, told: the list must be this one -/
noncomputable def idxRTold (full : Bool) (l : List DefD) : FSp := fun xs H k => match xs with
  | [x, .func c [.ptr (.hp j) 0]] => cond (tst (c = 34 ∧ nmIs j H = true ∧ x = encDefs full l)) (cond (l.any (isNm (nmAt j H))) (k (.ret (.int .i64 (l.findIdx (isNm (nmAt j H)) : Nat)) H)) (k (.ret (.int .i64 (-1)) H))) none
  | _ => none
theorem idxRTold_ok {full : Bool} {l : List DefD} (hl : l.length ≤ 1099511627776) (xs : List AVal) (H : Heap) (k : Out → Ans) (out : Out) (ho : idxRTold full l xs H k = some out) : ∃ o, CallOK Try.prog 33 xs H o ∧ k o = some out := by
  unfold idxRTold at ho
  split at ho
  · rename_i x c j
    rw [Bool.cond_eq_ite] at ho
    split at ho
    · rename_i hc
      obtain ⟨rfl, hj, rfl⟩ := of_tst hc
      have key : ∀ k, _ := idxR_fun full l j H
      rw [decDefs_enc, tst_true ⟨rfl, hj, wfL_encL wfDef_enc l, rfl, rfl, hl, rfl⟩] at key
      cases ha : l.any (isNm (nmAt j H)) with
      | true =>
        rw [ha] at key ho
        exact ⟨_, layR2_ok.call (fun k => key k), ho⟩
      | false =>
        rw [ha] at key ho
        exact ⟨_, layR2_ok.call (fun k => key k), ho⟩
    · simp at ho
  · simp at ho
end Go.Mu
