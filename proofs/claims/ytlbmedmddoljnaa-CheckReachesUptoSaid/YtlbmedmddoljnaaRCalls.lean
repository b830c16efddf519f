/-
  What check.Calls$1 does to the list that it captures.
-/
import Derived.Test.YtlbmedmddoljnaaRIdx
set_option linter.unusedVariables false
set_option linter.unusedSimpArgs false
set_option maxRecDepth 100000
namespace Go.Mu
open Go Go.Proofs
theorem c1_fun (n : NdD) (m u : Nat) (rows : List (List AVal)) (k : Out → Ans) : iFun Try.prog (layCt.hd Try.prog) layCt.fhs 0 36 [.agg (encNd n), .ptr (.hp 0) 0] [.var [.own 1 0 m u false], .arr 1 rows u] k =
    cond (n.kind == 6) (cond ((u == u && decide (0 + m ≤ rows.length) && rows.all (fun r => r.all isPure)) && true)
        (cond (wfL wfS (.list false m (fun i => rows.getD (0 + i) [])) && decide (lenL (.list false m (fun i => rows.getD (0 + i) [])) ≤ 1099511627776))
          (cond (cond (n.kind == 6) (!(decL decS (.list false m (fun i => rows.getD (0 + i) []))).contains n.name) false)
            (cond (u == u && m == rows.length && decide ((2 * (m + 1) + 1000) * 16 ≤ 281474976710656))
              (k (.ret (.bool true) [.var [.own 1 0 (m + 1) (u + 1) false], .arr 1 (rows.append [[.str n.name]]) (u + 1)])) none)
            (k (.ret (.bool true) [.var [.own 1 0 m u false], .arr 1 rows u]))) none) none)
      (cond (n.kind == 6) none (cond (n.kind == 6) none (k (.ret (.bool true) [.var [.own 1 0 m u false], .arr 1 rows u])))) := by kernel_rfl
theorem c1_fun0 (n : NdD) (k : Out → Ans) : iFun Try.prog (layCt.hd Try.prog) layCt.fhs 0 36 [.agg (encNd n), .ptr (.hp 0) 0] [.var [nilList]] k =
    cond (cond (n.kind == 6) true false) (k (.ret (.bool true) [.var [.own 1 0 (0 + 1) 0 false], .arr 1 [[.str n.name]] 0])) (k (.ret (.bool true) [.var [nilList]])) := by kernel_rfl
theorem rows_pure (o : List Nm) : (rowsS o).all (fun r => r.all isPure) = true := by
  simp [rowsS, encS, isPure, pureD]
theorem rows_len (o : List Nm) : (rowsS o).length = o.length := by simp [rowsS]
theorem rows_get (o : List Nm) (i : Nat) (h : i < o.length) : (rowsS o).getD (0 + i) [] = encS (o.getD i []) := by
  simp [rowsS, List.getD_eq_getElem?_getD, List.getElem?_eq_getElem h]
theorem rows_wf (o : List Nm) : wfL wfS (.list false o.length (fun i => (rowsS o).getD (0 + i) [])) = true := by
  simp only [wfL, List.all_eq_true, List.mem_range]
  intro i hi
  rw [rows_get o i hi]; rfl
theorem rows_dec (o : List Nm) : decL decS (.list false o.length (fun i => (rowsS o).getD (0 + i) [])) = o := by
  simp only [decL]
  conv => rhs; rw [← range_getD o []]
  refine List.map_congr_left (fun i hi => ?_)
  rw [rows_get o i (by simpa using hi)]; rfl
theorem rows_app (o : List Nm) (s : Nm) : (rowsS o).append [[.str s]] = rowsS (o ++ [s]) := by
  show rowsS o ++ _ = _
  simp [rowsS, encS]
theorem c1_call (n : NdD) {o : List Nm} (h : o.length ≤ 1099511627776) (k : Out → Ans) : iFun Try.prog (layCt.hd Try.prog) layCt.fhs 0 36 [.agg (encNd n), .ptr (.hp 0) 0] (Hout o) k = k (.ret (.bool true) (Hout (addN n o))) := by
  cases o with
  | nil =>
    rw [show Hout [] = [.var [nilList]] from rfl, c1_fun0]
    unfold addN
    cases n.kind == 6 <;> rfl
  | cons s o =>
    have e : Hout (s :: o) = [.var [.own 1 0 (s :: o).length ((s :: o).length - 1) false], .arr 1 (rowsS (s :: o)) ((s :: o).length - 1)] := rfl
    rw [e, c1_fun, rows_pure, rows_len, rows_wf, rows_dec, rows_app]
    have e2 : lenL (.list false (s :: o).length (fun i => (rowsS (s :: o)).getD (0 + i) [])) = (s :: o).length := rfl
    rw [e2, decide_eq_true h, decide_eq_true (show 0 + (s :: o).length ≤ (s :: o).length by omega), decide_eq_true (show (2 * ((s :: o).length + 1) + 1000) * 16 ≤ 281474976710656 by omega)]
    simp only [beq_self_eq_true, Bool.and_self, cond_true]
    have e3 : Hout ((s :: o) ++ [n.name]) = [.var [.own 1 0 ((s :: o).length + 1) ((s :: o).length - 1 + 1) false], .arr 1 (rowsS ((s :: o) ++ [n.name])) ((s :: o).length - 1 + 1)] := by
      simp [Hout]
    unfold addN
    cases hk : n.kind == 6
    · rfl
    · simp only [cond_true]
      cases hc : (s :: o).contains n.name
      · simp only [Bool.not_false, cond_true, cond_false]; rw [e3]
      · rfl
/-- check.Calls$1, told -/
noncomputable def c1Told : FSp := fun xs H k => match xs with
  | [.agg x, .ptr (.hp 0) 0] => cond (tst (x = encNd (decNd x) ∧ H = Hout (ofHout H) ∧ (ofHout H).length ≤ 1099511627776)) (k (.ret (.bool true) (Hout (addN (decNd x) (ofHout H))))) none
  | _ => none
theorem c1Told_ok (xs : List AVal) (H : Heap) (k : Out → Ans) (out : Out) (ho : c1Told xs H k = some out) : ∃ o, CallOK Try.prog 36 xs H o ∧ k o = some out := by
  unfold c1Told at ho
  split at ho
  · rename_i x
    rw [Bool.cond_eq_ite] at ho
    split at ho
    · rename_i hc
      obtain ⟨hx, hH, hn⟩ := of_tst hc
      generalize decNd x = n at hx ho
      generalize ofHout H = o at hH hn ho
      subst hx hH
      exact ⟨_, layCt_ok.call (c1_call n hn), ho⟩
    · simp at ho
  · simp at ho
noncomputable def layC1 : Lay := layCt.addF 36 c1Told
theorem layC1_ok : layC1.OK Try.prog := layCt_ok.addF c1Told_ok
end Go.Mu
