/-
  What check.Calls tells of nodes.
-/
import Derived.Test.YtlbmedmddoljnaaREach
set_option linter.unusedVariables false
set_option linter.unusedSimpArgs false
set_option maxRecDepth 100000
namespace Go.Mu
open Go Go.Proofs
/-- the same, the two kinds of outcome told apart -/
noncomputable def eachTold2 (d : Nat) : FSp := fun xs H k => match xs with
  | [x, .func c [.ptr (.hp 0) 0]] => cond (tst (c = 36 ∧ wfV d x ∧ H = Hout (ofHout H) ∧ (ofHout H).length + cntV d x ≤ 1099511627776))
      (cond (callsV d x (ofHout H)).isEmpty (k (.ret (.bool true) [.var [nilList]]))
        (k (.ret (.bool true) [.var [.own 1 0 (callsV d x (ofHout H)).length ((callsV d x (ofHout H)).length - 1) false], .arr 1 (rowsS (callsV d x (ofHout H))) ((callsV d x (ofHout H)).length - 1)]))) none
  | _ => none
theorem eachTold2_eq (d : Nat) (xs : List AVal) (H : Heap) (k : Out → Ans) : eachTold2 d xs H k = eachTold d xs H k := by
  unfold eachTold2 eachTold
  split
  · congr 1
    generalize callsV d _ _ = o
    cases o <;> rfl
  · rename_i h
    split
    · exact absurd rfl (h _ _)
    · rfl
noncomputable def layE2 (d : Nat) : Lay := (layC1.addF 29 (eachTold2 d)).addL 14 { heap := [3] }
theorem layE2_ok (d : Nat) : (layE2 d).OK Try.prog := (layC1_ok.addF (fun xs H k out ho => eachTold_ok d xs H k out (by rw [← eachTold2_eq]; exact ho))).addL (LOk.none (fun _ => rfl) _)
theorem calls_fun (d : Nat) (f : Bool) (n : Nat) (r : Nat → List AVal) (k : Out → Ans) : iFun Try.prog ((layE2 d).hd Try.prog) (layE2 d).fhs 0 14 [.list f n r] [] k =
    cond (tst ((36 : Nat) = 36 ∧ wfV d (.list f n r) ∧ [Obj.var [nilList]] = Hout (ofHout [.var [nilList]]) ∧ (ofHout [.var [nilList]]).length + cntV d (.list f n r) ≤ 1099511627776))
      (cond (callsV d (.list f n r) (ofHout [.var [nilList]])).isEmpty (k (.ret nilList [.var [nilList]]))
        (k (.ret (.own 1 0 (callsV d (.list f n r) (ofHout [.var [nilList]])).length ((callsV d (.list f n r) (ofHout [.var [nilList]])).length - 1) false) [.var [.own 1 0 (callsV d (.list f n r) (ofHout [.var [nilList]])).length ((callsV d (.list f n r) (ofHout [.var [nilList]])).length - 1) false], .arr 1 (rowsS (callsV d (.list f n r) (ofHout [.var [nilList]]))) ((callsV d (.list f n r) (ofHout [.var [nilList]])).length - 1)]))) none := by kernel_rfl
theorem freeze_rows (H : Heap) (d : Nat) : ∀ o : List Nm, (rowsS o).mapM (fun r => r.mapM (freezeV H (d + 1))) = some (rowsS o)
  | [] => rfl
  | s :: o => by
    have ih := freeze_rows H d o
    have e : rowsS (s :: o) = encS s :: rowsS o := rfl
    rw [e, List.mapM_cons, ih]
    rfl
theorem freeze_own {H : Heap} {k sz off len u d : Nat} {clip : Bool} {rows rows' : List (List AVal)} (hk : H[k]? = some (.arr sz rows u)) (hl : off + len ≤ rows.length) (hr : ((rows.drop off).take len).mapM (fun r => r.mapM (freezeV H d)) = some rows') : freezeV H (d + 1) (.own k off len u clip) = some (.list false len (fun i => rows'.getD i [])) := by
  unfold freezeV
  simp only [hk]
  rw [if_pos (by simp [hl]), hr]
theorem sub_rows (o : List Nm) : Sub (.list false o.length (fun i => (rowsS o).getD i [])) (encSs false o) := by
  refine Sub.list (fun h => h) (fun i hi => ?_)
  have := rows_get o i hi
  rw [Nat.zero_add] at this
  rw [this]; exact .refl _
theorem calls_ok {d : Nat} {x : AVal} (hw : wfV d x) (hn : cntV d x ≤ 1099511627776) : CallOK Try.prog 14 [x] [] (.ret (encSs false (callsV d x [])) []) := by
  have hx : ∃ f n r, x = .list f n r := by
    cases d with
    | zero => exact hw.elim
    | succ d =>
      have := hw.1
      cases x <;> simp only [wfL, Bool.false_eq_true] at this
      exact ⟨_, _, _, rfl⟩
  obtain ⟨f, n, r, rfl⟩ := hx
  have key : ∀ k, _ := calls_fun d f n r
  have e0 : ofHout [.var [nilList]] = [] := rfl
  rw [e0] at key
  have ht : tst ((36 : Nat) = 36 ∧ wfV d (.list f n r) ∧ [Obj.var [nilList]] = Hout ([] : List Nm) ∧ ([] : List Nm).length + cntV d (.list f n r) ≤ 1099511627776) = true := tst_true ⟨rfl, hw, rfl, by simpa using hn⟩
  rw [ht] at key
  generalize callsV d (.list f n r) [] = o at key ⊢
  cases o with
  | nil =>
    have h1 : CallOK Try.prog 14 [.list f n r] [] (.ret nilList [.var [nilList]]) := (layE2_ok d).call (fun k => key k)
    exact (h1.freeze (d := 2) (v' := nilList) rfl).sub (.refl _) ⟨Sub.list (fun h => by cases h) (fun i hi => by simp at hi), rfl⟩
  | cons s o =>
    have h1 : CallOK Try.prog 14 [.list f n r] [] (.ret (.own 1 0 (s :: o).length ((s :: o).length - 1) false) [.var [.own 1 0 (s :: o).length ((s :: o).length - 1) false], .arr 1 (rowsS (s :: o)) ((s :: o).length - 1)]) := (layE2_ok d).call (fun k => key k)
    refine (h1.freeze (d := 3) (v' := .list false (s :: o).length (fun i => (rowsS (s :: o)).getD i [])) ?_).sub (.refl _) ⟨sub_rows (s :: o), rfl⟩
    exact freeze_own (H := [.var [.own 1 0 (s :: o).length ((s :: o).length - 1) false], .arr 1 (rowsS (s :: o)) ((s :: o).length - 1)]) rfl (by rw [rows_len]; omega) (by
      rw [List.drop_zero, show (rowsS (s :: o)).take (s :: o).length = rowsS (s :: o) from List.take_of_length_le (by rw [rows_len]; exact Nat.le_refl _), freeze_rows])
/-- check.Calls, told -/
noncomputable def callsTold (d : Nat) : FSp := fun xs H k => match xs, H with
  | [x], [] => cond (tst (wfV d x ∧ cntV d x ≤ 1099511627776)) (k (.ret (encSs false (callsV d x [])) [])) none
  | _, _ => none
theorem callsTold_ok (d : Nat) (xs : List AVal) (H : Heap) (k : Out → Ans) (out : Out) (ho : callsTold d xs H k = some out) : ∃ o, CallOK Try.prog 14 xs H o ∧ k o = some out := by
  unfold callsTold at ho
  split at ho
  · rename_i x
    rw [Bool.cond_eq_ite] at ho
    split at ho
    · rename_i hc
      obtain ⟨hw, hn⟩ := of_tst hc
      exact ⟨_, calls_ok hw hn, ho⟩
    · simp at ho
  · simp at ho
end Go.Mu
