/-
  What check.Reaches tells.
-/
import Derived.Test.YtlbmedmddoljnaaRReach
set_option linter.unusedVariables false
set_option linter.unusedSimpArgs false
set_option maxRecDepth 100000
namespace Go.Mu
open Go Go.Proofs
section
variable (d : Nat) (full : Bool) (defs : List DefD)
abbrev H0R : Heap := [.var [encDefs full defs], .var [nilList], .var [fromV]]
abbrev b3 (s : Nm) : Heap := [.var [encDefs full defs], .var [nilList], .var [fromV], .var [.str s]]
abbrev q3 (s : Nm) : Nm := nmAt 3 (b3 full defs s)
abbrev bd3 (s : Nm) : AVal := (defs.getD ((defs.findIdx (isNm (q3 full defs s)) : Nat) : Int).toNat def0).body
theorem top_fun (n : Nat) (s : Nm) (k : Out → Ans) : iFun Try.prog ((layF1 d full defs n).hd Try.prog) (layF1 d full defs n).fhs 0 32 [.str s, .ptr (.hp 0) 0, .ptr (.hp 1) 0, .ptr (.hp 2) 0] (H0R full defs) k =
    cond (tst ((34 : Nat) = 34 ∧ true = true ∧ encDefs full defs = encDefs full defs))
      (cond (defs.any (isNm (q3 full defs s)))
        (cond (decide (((defs.findIdx (isNm (q3 full defs s)) : Nat) : Int) < defs.length))
          (cond (tst (wfV d (bd3 full defs s) ∧ cntV d (bd3 full defs s) ≤ 1099511627776))
            (cond (tst (wfL wfS (encSs false (callsV d (bd3 full defs s) [])) = true ∧ ((callsV d (bd3 full defs s) []).length : Int) = (lenL (encSs false (callsV d (bd3 full defs s) [])) : Int) ∧ (0 : Int) = 0 ∧ lenL (encSs false (callsV d (bd3 full defs s) [])) ≤ 1099511627776 ∧ ([] : List (List AVal)) = [] ∧ HRn (encDefs full defs) [s] = HRn (encDefs full defs) (ofHR (HRn (encDefs full defs) [s])) ++ (HRn (encDefs full defs) [s]).drop 5 ∧ okHR defs n (ofHR (HRn (encDefs full defs) [s]))))
              (k (.ret (.tuple []) (HRn (encDefs full defs) ((decL decS (encSs false (callsV d (bd3 full defs s) []))).foldl (fun o c => dfsD d defs n c o) (ofHR (HRn (encDefs full defs) [s]))) ++ (HRn (encDefs full defs) [s]).drop 5))) none) none) none)
        (k (.ret (.tuple []) (b3 full defs s)))) none := by kernel_rfl
theorem top_call {n : Nat} {s : Nm} (hd : defs.length < 1099511627776) (hw : ∀ x ∈ defs, wfV d x.body ∧ cntV d x.body ≤ 1099511627776) (hn : n = defs.length) (k : Out → Ans) :
    iFun Try.prog ((layF1 d full defs n).hd Try.prog) (layF1 d full defs n).fhs 0 32 [.str s, .ptr (.hp 0) 0, .ptr (.hp 1) 0, .ptr (.hp 2) 0] (H0R full defs) k =
      cond (thD defs s) (k (.ret (.tuple []) (HRn (encDefs full defs) (dfsD d defs (n + 1) s [])))) (k (.ret (.tuple []) (b3 full defs s))) := by
  have eq : q3 full defs s = s := rfl
  have et : defs.any (isNm s) = thD defs s := rfl
  have eb : bd3 full defs s = (defs.getD (defs.findIdx (isNm s)) def0).body := by
    show (defs.getD ((defs.findIdx (isNm (q3 full defs s)) : Nat) : Int).toNat def0).body = _
    rw [eq, Int.toNat_natCast]
  rw [top_fun, eb, eq, et]
  have ed : dfsD d defs (n + 1) s [] = cond (thD defs s && true) ((clD d defs s).foldl (fun o c => dfsD d defs n c o) [s]) [] := rfl
  rw [ed]
  cases ht : thD defs s with
  | false => rw [tst_true ⟨rfl, rfl, rfl⟩]; rfl
  | true =>
    have hlt : defs.findIdx (isNm s) < defs.length := List.findIdx_lt_length.2 (by
      unfold thD at ht
      rw [List.any_eq_true] at ht
      exact ht)
    have em : defs.getD (defs.findIdx (isNm s)) def0 ∈ defs := by
      rw [List.getD_eq_getElem?_getD, List.getElem?_eq_getElem hlt]
      exact List.getElem_mem hlt
    obtain ⟨w1, w2⟩ := hw _ em
    have ec : callsV d (defs.getD (defs.findIdx (isNm s)) def0).body [] = clD d defs s := rfl
    have hcl : (clD d defs s).length ≤ 1099511627776 := by
      have := callsV_len d (defs.getD (defs.findIdx (isNm s)) def0).body []
      rw [ec] at this
      simp only [List.length_nil] at this
      omega
    have hm := miss_lt (o := []) (s := s) (by simp) (unD defs) (unD_mem defs ht)
    have hm0 : miss (unD defs) [] ≤ defs.length := by
      have : miss (unD defs) [] ≤ (unD defs).length := List.length_filter_le _ _
      simpa using this
    have ok2 : okHR defs n [s] := ⟨by simp, by simp only [List.nil_append] at hm; omega, by simp only [List.nil_append] at hm; simp only [List.length_singleton]; omega⟩
    have e1 : ofHR (HRn (encDefs full defs) [s]) = [s] := rfl
    rw [ec, e1, decS_enc, tst_true ⟨rfl, rfl, rfl⟩, decide_eq_true (show ((defs.findIdx (isNm s) : Nat) : Int) < defs.length by omega), tst_true ⟨w1, w2⟩, tst_true ⟨wfL_encL (fun _ => rfl) _, rfl, rfl, hcl, rfl, rfl, ok2⟩]
    rfl
noncomputable def topTold (n : Nat) : FSp := fun xs H k => match xs with
  | [.str s, .ptr (.hp 0) 0, .ptr (.hp 1) 0, .ptr (.hp 2) 0] => cond (tst (H = H0R full defs)) (cond (thD defs s) (k (.ret (.tuple []) (HRn (encDefs full defs) (dfsD d defs (n + 1) s [])))) (k (.ret (.tuple []) (b3 full defs s)))) none
  | _ => none
theorem topTold_ok {n : Nat} (hd : defs.length < 1099511627776) (hw : ∀ x ∈ defs, wfV d x.body ∧ cntV d x.body ≤ 1099511627776) (hn : n = defs.length) (xs : List AVal) (H : Heap) (k : Out → Ans) (out : Out) (ho : topTold d full defs n xs H k = some out) : ∃ o, CallOK Try.prog 32 xs H o ∧ k o = some out := by
  unfold topTold at ho
  split at ho
  case h_2 => simp at ho
  rename_i s
  rw [Bool.cond_eq_ite] at ho
  split at ho
  case isFalse => simp at ho
  rename_i hc
  have := of_tst hc
  subst this
  have key := fun k => top_call d full defs (s := s) hd hw hn k
  cases ht : thD defs s with
  | true =>
    rw [ht] at key ho
    exact ⟨_, (layF1_ok d full defs (Nat.le_of_lt hd) hw n).call (fun k => key k), ho⟩
  | false =>
    rw [ht] at key ho
    exact ⟨_, (layF1_ok d full defs (Nat.le_of_lt hd) hw n).call (fun k => key k), ho⟩
noncomputable def layT (n : Nat) : Lay := (Lay.nil.addF 32 (topTold d full defs n)).addL 13 { heap := [2, 5, 6] }
theorem layT_ok {n : Nat} (hd : defs.length < 1099511627776) (hw : ∀ x ∈ defs, wfV d x.body ∧ cntV d x.body ≤ 1099511627776) (hn : n = defs.length) : (layT d full defs n).OK Try.prog := (Lay.nil_ok.addF (topTold_ok d full defs hd hw hn)).addL (LOk.none (fun _ => rfl) _)
theorem reach_fun (n : Nat) (s : Nm) (k : Out → Ans) : iFun Try.prog ((layT d full defs n).hd Try.prog) (layT d full defs n).fhs 0 13 [encDefs full defs, .str s] [] k =
    cond (tst (H0R full defs = H0R full defs)) (cond (thD defs s)
      (k (.ret (.own 4 0 (dfsD d defs (n + 1) s []).length ((dfsD d defs (n + 1) s []).length - 1) false) (HRn (encDefs full defs) (dfsD d defs (n + 1) s [])))) (k (.ret nilList (b3 full defs s)))) none := by kernel_rfl
/-- what check.Reaches tells -/
abbrev reachD (s : Nm) : List Nm := dfsD d defs (defs.length + 1) s []
theorem reach_ok (hd : defs.length < 1099511627776) (hw : ∀ x ∈ defs, wfV d x.body ∧ cntV d x.body ≤ 1099511627776) (s : Nm) : CallOK Try.prog 13 [encDefs full defs, .str s] [] (.ret (encSs false (reachD d defs s)) []) := by
  have key := fun k => reach_fun d full defs defs.length s k
  rw [tst_true rfl] at key
  cases ht : thD defs s with
  | true =>
    rw [ht] at key
    have h1 := (layT_ok d full defs hd hw rfl).call (o := .ret (.own 4 0 (reachD d defs s).length ((reachD d defs s).length - 1) false) (HRn (encDefs full defs) (reachD d defs s))) (fun k => key k)
    refine (h1.freeze (d := 3) (v' := .list false (reachD d defs s).length (fun i => (rowsS (reachD d defs s)).getD i [])) ?_).sub (.refl _) ⟨sub_rows _, rfl⟩
    exact freeze_own (H := HRn (encDefs full defs) (reachD d defs s)) rfl (by rw [rows_len]; omega) (by
      rw [List.drop_zero, show (rowsS (reachD d defs s)).take (reachD d defs s).length = rowsS (reachD d defs s) from List.take_of_length_le (by rw [rows_len]; exact Nat.le_refl _), freeze_rows])
  | false =>
    rw [ht] at key
    have e : reachD d defs s = [] := by
      show cond (thD defs s && true) _ [] = []
      rw [ht]; rfl
    rw [e]
    have h1 := (layT_ok d full defs hd hw rfl).call (o := .ret nilList (b3 full defs s)) (fun k => key k)
    exact (h1.freeze (d := 2) (v' := nilList) rfl).sub (.refl _) ⟨Sub.list (fun h => by cases h) (fun i hi => by simp at hi), rfl⟩
end
/-- check.Reaches, told: the list must be this one -/
noncomputable def reachTold (d : Nat) (full : Bool) (defs : List DefD) : FSp := fun xs H k => match xs, H with
  | [x, .str s], [] => cond (tst (x = encDefs full defs)) (k (.ret (encSs false (reachD d defs s)) [])) none
  | _, _ => none
theorem reachTold_ok {d : Nat} {full : Bool} {defs : List DefD} (hd : defs.length < 1099511627776) (hw : ∀ x ∈ defs, wfV d x.body ∧ cntV d x.body ≤ 1099511627776) (xs : List AVal) (H : Heap) (k : Out → Ans) (out : Out) (ho : reachTold d full defs xs H k = some out) : ∃ o, CallOK Try.prog 13 xs H o ∧ k o = some out := by
  unfold reachTold at ho
  split at ho
  · rename_i x s
    rw [Bool.cond_eq_ite] at ho
    split at ho
    · rename_i hc
      have := of_tst hc
      subst this
      exact ⟨_, reach_ok d full defs hd hw s, ho⟩
    · simp at ho
  · simp at ho
end Go.Mu
