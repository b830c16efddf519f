/-
  What code.Code makes of units.
-/
import Derived.Test.YtlbmedmddoljnaaWExec
import Derived.Test.YtlbmedmddoljnaaWWrite
set_option linter.unusedVariables false
set_option linter.unusedSimpArgs false
set_option maxRecDepth 100000
namespace Go.Mu
open Go Go.Proofs
noncomputable def nodesTold (d : Nat) : FSp := fun xs H k => match xs with
  | [.ptr (.hp 0) 0, x] => cond (tst (wfW d x ∧ H = Hw (uOf H) (ofHw H) ∧ (ofHw H).length + cntW d x ≤ 1099511627776))
      (cond (writeM d x (ofHw H)).isEmpty (k (.ret (.tuple []) [.var [nilList], uOf H])) (k (.ret (.tuple []) (HwN (uOf H) (writeM d x (ofHw H)))))) none
  | _ => none
theorem nodesTold_ok (d : Nat) (xs : List AVal) (H : Heap) (k : Out → Ans) (out : Out) (ho : nodesTold d xs H k = some out) : ∃ o, CallOK Try.prog 38 xs H o ∧ k o = some out := by
  unfold nodesTold at ho
  split at ho
  · rename_i x
    rw [Bool.cond_eq_ite] at ho
    split at ho
    · rename_i hc
      obtain ⟨hw, hH, hb⟩ := of_tst hc
      generalize uOf H = U at *
      generalize ofHw H = ops at *
      subst hH
      have h1 := nodes_ok d x U ops hw hb
      cases hq : writeM d x ops with
      | nil => rw [hq] at h1 ho; exact ⟨_, h1, ho⟩
      | cons y ys => rw [hq] at h1 ho; rw [show Hw U (y :: ys) = HwN U (y :: ys) from rfl] at h1; exact ⟨_, h1, ho⟩
    · simp at ho
  · simp at ho
noncomputable def layCd (d : Nat) : Lay := ((Lay.nil.addF 37 (execTold d)).addF 39 putTold).addF 38 (nodesTold d)
theorem layCd_ok (d : Nat) : (layCd d).OK Try.prog := ((Lay.nil_ok.addF (execTold_ok d)).addF putTold_ok).addF (nodesTold_ok d)
abbrev p2 : AVal := .ptr (.tmp 2) 0
abbrev p6 : AVal := .ptr (.tmp 6) 0
abbrev pw : AVal := .ptr (.hp 0) 0
/-- units' beginnings, and the steps -/
def codeM (d : Nat) : List UnD → List Int → List OpD → List Int × List OpD
  | [], us, ops => (us, ops)
  | u :: l, us, ops => codeM d l (us ++ [(ops.length : Int)]) (putM (writeM d u.body ops) ⟨11, 0, [], true, [], 0⟩)
abbrev Uu (us : List Int) : Obj := .arr 1 (rowsE encI us) (us.length - 1)
noncomputable def cdSp (d : Nat) : LSp := fun vs bs H k => match vs, bs, H with
  | [.ptr (.tmp 2) 0, .ptr (.hp 0) 0, .ptr (.tmp 6) 0, x, .int .i64 n, .int .i64 z], [b2, b6], H => cond (tst (b2 = [nilList, nilList] ∧ b6 = [nilList, nilList] ∧ H = [.var [nilList]] ∧ wfL wfUn x = true ∧ okUs d (unitsU x) ∧ unitsU x ≠ [] ∧ ((unitsU x).map (fun u => 1 + cntW d u.body)).sum ≤ 1073741824 ∧ n = (lenL x : Int) ∧ z = 0))
      (k (.exit 0) [p2, pw, p6] [[nilList, nilList], [nilList, .own 1 0 (codeM d (unitsU x) [] []).1.length ((codeM d (unitsU x) [] []).1.length - 1) false]] (HwN (Uu (codeM d (unitsU x) [] []).1) (codeM d (unitsU x) [] []).2)) none
  | _, _, _ => none
noncomputable def cdFH (d : Nat) : FH := .of [(7, loopSpec 47 [2,5,6,17,18,19] [2,6] [2,5,6] [2,6] (cdSp d))] { heap := [16] }
noncomputable abbrev cdTurn (d : Nat) := lturn Try.prog (layCd d) (cdFH d) 18 7 [2,5,6,17,18,19] [2,6] [2,5,6] [2,6]
abbrev cdSt (full : Bool) (l : List UnD) (i : Int) (uv : AVal) (H : Heap) (D : List (FuncId × List AVal)) : St := stL 47 [2,5,6,17,18,19] [p2, pw, p6, encUns full l, .int .i64 l.length, .int .i64 i] [2,6] [[nilList, nilList], [nilList, uv]] H D
noncomputable abbrev tNo (d : Nat) (x : AVal) (H : Heap) : Bool := tst (wfW d x ∧ H = Hw (uOf H) (ofHw H) ∧ (ofHw H).length + cntW d x ≤ 1099511627776)
abbrev e11 : List AVal := eZ 11 0 [] 0
noncomputable abbrev cdTail (d : Nat) (x : AVal) (H1 : Heap) (F : Heap → Ans) : Ans :=
  cond (tNo d x H1) (cond (writeM d x (ofHw H1)).isEmpty (cond (tP e11 [.var [nilList], uOf H1]) (F (hP e11 [.var [nilList], uOf H1])) none)
    (cond (tP e11 (HwN (uOf H1) (writeM d x (ofHw H1)))) (F (hP e11 (HwN (uOf H1) (writeM d x (ofHw H1))))) none)) none
theorem cd_first (d : Nat) (full : Bool) (l : List UnD) (D : List (FuncId × List AVal)) (k : Kont) : cdTurn d (cdSt full l 0 nilList [.var [nilList]] D) k =
    cond (decide ((0 : Int) < l.length)) (cond (decide ((0 : Int) < l.length))
      (cdTail d (l.getD (0 : Int).toNat un0).body [.var [nilList], .arr 1 [[.int .i64 0]] 0] (fun H => k .normal (cdSt full l 1 (.own 1 0 1 0 false) H D))) none)
      (k (.exit 0) (stL 47 [2,5,6] [p2, pw, p6] [2,6] [[nilList, nilList], [nilList, nilList]] [.var [nilList]] D)) := by kernel_rfl
theorem cd_next (d : Nat) (full : Bool) (l : List UnD) (i m v n u : Nat) (rowsU rows : List (List AVal)) (D : List (FuncId × List AVal)) (k : Kont) : cdTurn d (cdSt full l i (.own 1 0 m v false) [.var [.own 2 0 n u false], .arr 1 rowsU v, .arr 5 rows u] D) k =
    cond (decide ((i : Int) < l.length)) (cond (decide ((i : Int) < l.length))
      (cond (v == v && m == rowsU.length && decide ((2 * (m + 1) + 1000) * 8 ≤ 281474976710656))
        (cdTail d (l.getD (i : Int).toNat un0).body [.var [.own 2 0 n u false], .arr 1 (rowsU.append [[.int .i64 n]]) (v + 1), .arr 5 rows u] (fun H => k .normal (cdSt full l (IntKind.i64.wrap ((i : Int) + 1)) (.own 1 0 (m + 1) (v + 1) false) H D))) none) none)
      (k (.exit 0) (stL 47 [2,5,6] [p2, pw, p6] [2,6] [[nilList, nilList], [nilList, .own 1 0 m v false]] [.var [.own 2 0 n u false], .arr 1 rowsU v, .arr 5 rows u] D)) := by kernel_rfl
theorem tail_eq {d : Nat} {x : AVal} {U : Obj} {ops : List OpD} (F : Heap → Ans) (hw : wfW d x) (hb : ops.length + (1 + cntW d x) ≤ 1099511627776) : cdTail d x (Hw U ops) F = F (HwN U (putM (writeM d x ops) ⟨11, 0, [], true, [], 0⟩)) := by
  have hi := (writeM_adds d x).hi ops
  unfold cdTail tNo
  rw [(ofHw_mk U ops).1, (ofHw_mk U ops).2, tst_true ⟨hw, rfl, by omega⟩]
  have e : ∀ o : List OpD, o.length ≤ 1099511627776 → tP e11 (Hw U o) = true := fun o ho => tP_Hw (op := ⟨11, 0, [], true, [], 0⟩) rfl eZ_sub okCs_nil ho
  have e2 : ∀ o : List OpD, hP e11 (Hw U o) = HwN U (putM o ⟨11, 0, [], true, [], 0⟩) := fun o => by
    rw [hP_Hw (op := ⟨11, 0, [], true, [], 0⟩) rfl, Hw_ne (by simp [putM])]
  generalize writeM d x ops = o at *
  cases o with
  | nil =>
    have e3 := e [] (by simp)
    have e4 := e2 []
    rw [show Hw U [] = [.var [nilList], U] from rfl] at e3 e4
    simp only [List.isEmpty_nil, cond_true]
    rw [e3, e4]; rfl
  | cons y o =>
    have e3 := e (y :: o) (by omega)
    have e4 := e2 (y :: o)
    rw [show Hw U (y :: o) = HwN U (y :: o) from rfl] at e3 e4
    simp only [List.isEmpty_cons, cond_true, cond_false]
    rw [e3, e4]; rfl
theorem putM_pos (ops : List OpD) (x : OpD) : putM ops x ≠ [] := by simp [putM]
theorem cd_step {d : Nat} {full : Bool} {l : List UnD} {i : Nat} {us : List Int} {ops : List OpD} (D : List (FuncId × List AVal)) (k : Kont) (hi : i < l.length) (hl : l.length ≤ 1073741824) (hw : wfW d (l.getD i un0).body) (hne : us ≠ []) (hus : us.length ≤ 1073741824) (hops : ops ≠ []) (hb : ops.length + (1 + cntW d (l.getD i un0).body) ≤ 1099511627776) :
    cdTurn d (cdSt full l i (.own 1 0 us.length (us.length - 1) false) (HwN (Uu us) ops) D) k = k .normal (cdSt full l ((i + 1 : Nat) : Int) (.own 1 0 (us ++ [(ops.length : Int)]).length ((us ++ [(ops.length : Int)]).length - 1) false) (HwN (Uu (us ++ [(ops.length : Int)])) (putM (writeM d (l.getD i un0).body ops) ⟨11, 0, [], true, [], 0⟩)) D) := by
  have l0 : 0 < us.length := List.length_pos_iff.2 hne
  rw [cd_next, decide_eq_true (show (i : Int) < l.length by omega), wrap_add1 (by omega), Int.toNat_natCast]
  have e1 : (rowsE encI us).length = us.length := by simp [rowsE]
  have e2 : (rowsE encI us).append [[.int .i64 (ops.length : Int)]] = rowsE encI (us ++ [(ops.length : Int)]) := by
    show rowsE encI us ++ _ = _
    simp [rowsE, encI]
  have e3 : us.length - 1 + 1 = (us ++ [(ops.length : Int)]).length - 1 := by simp; omega
  have e4 : us.length + 1 = (us ++ [(ops.length : Int)]).length := by simp
  rw [e1, e2, e3, decide_eq_true (show (2 * (us.length + 1) + 1000) * 8 ≤ 281474976710656 by omega)]
  have e5 : [Obj.var [.own 2 0 ops.length (ops.length - 1) false], .arr 1 (rowsE encI (us ++ [(ops.length : Int)])) ((us ++ [(ops.length : Int)]).length - 1), .arr 5 (rowsE encOp ops) (ops.length - 1)] = Hw (Uu (us ++ [(ops.length : Int)])) ops := (Hw_ne hops).symm
  rw [e5, tail_eq _ hw hb, e4]
  simp only [beq_self_eq_true, Bool.and_self, cond_true]
theorem codeM_cons (d : Nat) (u : UnD) (l : List UnD) (us : List Int) (ops : List OpD) : codeM d (u :: l) us ops = codeM d l (us ++ [(ops.length : Int)]) (putM (writeM d u.body ops) ⟨11, 0, [], true, [], 0⟩) := rfl
theorem cd_run {d : Nat} {full : Bool} {l : List UnD} (D : List (FuncId × List AVal)) (k : Kont) (hl : l.length ≤ 1073741824) (hw : ∀ u ∈ l, wfW d u.body) : ∀ (m i : Nat) (us : List Int) (ops : List OpD), i + m = l.length → us ≠ [] → ops ≠ [] → us.length ≤ i → ops.length + ((l.drop i).map (fun u => 1 + cntW d u.body)).sum ≤ 1099511627776 →
    rounds (cdTurn d) (m + 1) (cdSt full l i (.own 1 0 us.length (us.length - 1) false) (HwN (Uu us) ops) D) k = k (.exit 0) (stL 47 [2,5,6] [p2, pw, p6] [2,6] [[nilList, nilList], [nilList, .own 1 0 (codeM d (l.drop i) us ops).1.length ((codeM d (l.drop i) us ops).1.length - 1) false]] (HwN (Uu (codeM d (l.drop i) us ops).1) (codeM d (l.drop i) us ops).2) D)
  | 0, i, us, ops, he, h1, h2, h3, hn => by
    obtain rfl : i = l.length := by omega
    rw [rounds_succ', cd_next, decide_eq_false (by omega), List.drop_length]
    rfl
  | m + 1, i, us, ops, he, h1, h2, h3, hn => by
    have hi : i < l.length := by omega
    have e1 : l.getD i un0 = l[i] := by simp [List.getD_eq_getElem?_getD, List.getElem?_eq_getElem hi]
    have hm := hw _ (List.getElem_mem hi)
    rw [← e1] at hm
    rw [List.drop_eq_getElem_cons hi, ← e1] at hn ⊢
    simp only [List.map_cons, List.sum_cons] at hn
    have wa := (writeM_adds d (l.getD i un0).body).hi ops
    have lp := putM_len (writeM d (l.getD i un0).body ops) ⟨11, 0, [], true, [], 0⟩
    rw [rounds_succ', cd_step D _ hi hl hm h1 (by omega) h2 (by omega), codeM_cons]
    exact cd_run D k hl hw m (i + 1) _ _ (by omega) (by simp) (putM_pos _ _) (by simp; omega) (by omega)
theorem cdSp_ok (d : Nat) : SpOK (cdTurn d) 47 [2,5,6,17,18,19] [2,6] [2,5,6] [2,6] (cdSp d) := by
  intro vs bs H k out ho
  unfold cdSp at ho
  split at ho
  case h_2 => simp at ho
  rename_i x n z b2 b6
  rw [Bool.cond_eq_ite] at ho
  split at ho
  case isFalse => simp at ho
  rename_i hc
  obtain ⟨rfl, rfl, rfl, hx, ⟨hl, hw⟩, hne, hb, rfl, rfl⟩ := of_tst hc
  have hl2 : (unitsU x).length = lenL x := lenL_decL (g := decUn) hx
  have hs : SubT x (encUns (fullOf x) (unitsU x)) := subT_encL hx wfUn_sub
  rw [← hl2]
  generalize unitsU x = l at *
  cases l with
  | nil => exact absurd rfl hne
  | cons u l =>
    have hrun : ∀ D k, rounds (cdTurn d) (l.length + 1 + 1) (cdSt (fullOf x) (u :: l) 0 nilList [.var [nilList]] D) k = k (.exit 0) (stL 47 [2,5,6] [p2, pw, p6] [2,6] [[nilList, nilList], [nilList, .own 1 0 (codeM d (u :: l) [] []).1.length ((codeM d (u :: l) [] []).1.length - 1) false]] (HwN (Uu (codeM d (u :: l) [] []).1) (codeM d (u :: l) [] []).2) D) := fun D k => by
      simp only [List.map_cons, List.sum_cons] at hb
      have hu := hw u (by simp)
      have wa := (writeM_adds d u.body).hi []
      have lp := putM_len (writeM d u.body []) ⟨11, 0, [], true, [], 0⟩
      simp only [List.length_nil] at wa
      simp only [List.length_cons] at hl
      have e0 : (u :: l).getD (0 : Int).toNat un0 = u := rfl
      have e5 : [Obj.var [nilList], .arr 1 [[.int .i64 0]] 0] = Hw (Uu [0]) [] := rfl
      rw [rounds_succ', cd_first, decide_eq_true (show (0 : Int) < (u :: l).length by simp only [List.length_cons]; omega), e0, e5, tail_eq _ hu (by simp only [List.length_nil]; omega)]
      have := cd_run (full := fullOf x) (l := u :: l) D k (by simp only [List.length_cons]; omega) hw l.length 1 [0] (putM (writeM d u.body []) ⟨11, 0, [], true, [], 0⟩) (by simp only [List.length_cons]; omega) (by simp) (putM_pos _ _) (by simp) (by
        simp only [List.drop_succ_cons, List.drop_zero]; omega)
      exact this
    exact ⟨_, _, _, _, _, _, .cons (.refl _) (.cons (.refl _) (.cons (.refl _) (.cons hs (.refl _)))), ⟨_, fun D k => hrun D k⟩, .refl _, ho⟩
noncomputable def layCd1 (d : Nat) : Lay := (layCd d).addL 18 (cdFH d)
theorem layCd1_ok (d : Nat) : (layCd1 d).OK Try.prog := (layCd_ok d).loop1 (id := 7) (by kernel_rfl) (by kernel_rfl) (by kernel_rfl) (cdSp_ok d)
abbrev cR (d : Nat) (x : AVal) : List Int × List OpD := codeM d (unitsU x) [] []
theorem cd_fun (d : Nat) (full : Bool) (l : List UnD) (k : Out → Ans) : iFun Try.prog ((layCd1 d).hd Try.prog) (layCd1 d).fhs 0 18 [encUns full l] [] k =
    cond (tst (wfL wfUn (encUns full l) = true ∧ okUs d (unitsU (encUns full l)))) (cond (execE d (unitsU (encUns full l)) != 0) (k (.ret (.tuple [.agg [nilList, nilList], .int .i64 (execE d (unitsU (encUns full l)))]) []))
      (cond (tst ([nilList, nilList] = [nilList, nilList] ∧ [nilList, nilList] = [nilList, nilList] ∧ [Obj.var [nilList]] = [.var [nilList]] ∧ wfL wfUn (encUns full l) = true ∧ okUs d (unitsU (encUns full l)) ∧ unitsU (encUns full l) ≠ [] ∧ ((unitsU (encUns full l)).map (fun u => 1 + cntW d u.body)).sum ≤ 1073741824 ∧ (l.length : Int) = (lenL (encUns full l) : Int) ∧ (0 : Int) = 0))
        (k (.ret (.tuple [.agg [.own 2 0 (cR d (encUns full l)).2.length ((cR d (encUns full l)).2.length - 1) false, .own 1 0 (cR d (encUns full l)).1.length ((cR d (encUns full l)).1.length - 1) false], .int .i64 0]) (HwN (Uu (cR d (encUns full l)).1) (cR d (encUns full l)).2))) none)) none := by kernel_rfl
end Go.Mu
