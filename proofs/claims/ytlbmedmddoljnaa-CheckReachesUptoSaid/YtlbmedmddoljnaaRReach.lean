/-
  What check.Reaches$1 does: by what is not out yet.
-/
import Derived.Test.YtlbmedmddoljnaaRFrom
set_option linter.unusedVariables false
set_option linter.unusedSimpArgs false
set_option maxRecDepth 100000
namespace Go.Mu
open Go Go.Proofs
abbrev fromV : AVal := .func 32 [.ptr (.hp 0) 0, .ptr (.hp 1) 0, .ptr (.hp 2) 0]
/-- the heap at such a call: the templates, the names that are out, the function, the first name, the names -/
abbrev HRn (L : AVal) (o : List Nm) : Heap := [.var [L], .var [.own 4 0 o.length (o.length - 1) false], .var [fromV], .var [.str (o.headD [])], .arr 1 (rowsS o) (o.length - 1)]
def ofHR : Heap → List Nm
  | _ :: _ :: _ :: _ :: .arr _ rows _ :: _ => rows.map decS
  | _ => []
theorem ofHR_mk (L : AVal) (o : List Nm) (G : Heap) : ofHR (HRn L o ++ G) = o := decS_rows o
section
variable (d : Nat) (full : Bool) (defs : List DefD)
def thD (s : Nm) : Bool := defs.any (isNm s)
def clD (s : Nm) : List Nm := callsV d (defs.getD (defs.findIdx (isNm s)) def0).body []
abbrev unD : List Nm := defs.map (·.name)
abbrev dfsD (n : Nat) (s : Nm) (o : List Nm) : List Nm := dfs (thD defs) (clD d defs) n s o
/-- what such a call must meet -/
def okHR (n : Nat) (o : List Nm) : Prop := o ≠ [] ∧ miss (unD defs) o < n ∧ o.length + miss (unD defs) o ≤ 1099511627776
noncomputable def fromTold (n : Nat) : FSp := fun xs H k => match xs with
  | [.str s, .ptr (.hp 0) 0, .ptr (.hp 1) 0, .ptr (.hp 2) 0] => cond (tst (H = HRn (encDefs full defs) (ofHR H) ++ H.drop 5 ∧ okHR defs n (ofHR H))) (k (.ret (.tuple []) (HRn (encDefs full defs) (dfsD d defs n s (ofHR H)) ++ H.drop 5))) none
  | _ => none
noncomputable def layF (n : Nat) : Lay := (((Lay.nil.addF 33 (idxRTold full defs)).addF 35 contTold).addF 14 (callsTold d)).addF 32 (fromTold d full defs n)
noncomputable def fromSp (n : Nat) : LSp := fun vs bs H k => match vs with
  | [.ptr (.hp 2) 0, x, .int .i64 m, .int .i64 z] => cond (tst (wfL wfS x = true ∧ m = (lenL x : Int) ∧ z = 0 ∧ lenL x ≤ 1099511627776 ∧ bs = [] ∧ H = HRn (encDefs full defs) (ofHR H) ++ H.drop 5 ∧ okHR defs n (ofHR H)))
      (k (.exit 0) [] [] (HRn (encDefs full defs) ((decL decS x).foldl (fun o c => dfsD d defs n c o) (ofHR H)) ++ H.drop 5)) none
  | _ => none
noncomputable def fromFH (n : Nat) : FH := .of [(5, loopSpec 37 [3,27,28,29] [] [] [] (fromSp d full defs n))] { heap := [4] }
noncomputable abbrev fromTurn (n : Nat) := lturn Try.prog (layF d full defs n) (fromFH d full defs n) 32 5 [3,27,28,29] [] [] []
abbrev fromSt (l : List Nm) (i : Int) (H : Heap) (D : List (FuncId × List AVal)) : St := stL 37 [3,27,28,29] [.ptr (.hp 2) 0, encSs false l, .int .i64 l.length, .int .i64 i] [] [] H D
theorem from_step0 (n : Nat) (l : List Nm) (i : Nat) (o : List Nm) (G : Heap) (D : List (FuncId × List AVal)) (k : Kont) : fromTurn d full defs n (fromSt l i (HRn (encDefs full defs) o ++ G) D) k =
    cond (decide ((i : Int) < l.length)) (cond (decide ((i : Int) < l.length)) (cond (tst (HRn (encDefs full defs) o ++ G = HRn (encDefs full defs) (ofHR (HRn (encDefs full defs) o ++ G)) ++ (HRn (encDefs full defs) o ++ G).drop 5 ∧ okHR defs n (ofHR (HRn (encDefs full defs) o ++ G))))
      (k .normal (fromSt l (IntKind.i64.wrap ((i : Int) + 1)) (HRn (encDefs full defs) (dfsD d defs n (l.getD (i : Int).toNat []) (ofHR (HRn (encDefs full defs) o ++ G))) ++ G) D)) none) none)
      (k (.exit 0) (stL 37 [] [] [] [] (HRn (encDefs full defs) o ++ G) D)) := by kernel_rfl
theorem unD_mem {s : Nm} (h : thD defs s = true) : s ∈ unD defs := by
  unfold thD at h
  rw [List.any_eq_true] at h
  obtain ⟨x, hx, he⟩ := h
  simp only [isNm, beq_iff_eq] at he
  exact List.mem_map.2 ⟨x, hx, he⟩
/-- what such a call keeps -/
theorem okHR_step {n : Nat} {o : List Nm} (s : Nm) (h : okHR defs n o) : okHR defs n (dfsD d defs n s o) := by
  obtain ⟨h1, h2, h3⟩ := h
  obtain ⟨g1, _⟩ := dfs_kept (cl := clD d defs) (fun x hx => unD_mem defs hx) n s o h2
  have hm : miss (unD defs) (dfsD d defs n s o) ≤ miss (unD defs) o := miss_mono g1.sub (unD defs)
  refine ⟨fun e => ?_, by omega, ?_⟩
  · obtain ⟨t, ht⟩ := g1.pre
    have ht' : o ++ t = dfsD d defs n s o := ht
    rw [e] at ht'
    exact h1 (List.append_eq_nil_iff.1 ht').1
  · exact Nat.le_trans (dfs_len (fun x hx => unD_mem defs hx) n s o h2) h3
theorem okHR_fold {n : Nat} : ∀ (l : List Nm) {o : List Nm}, okHR defs n o → okHR defs n (l.foldl (fun o c => dfsD d defs n c o) o)
  | [], o, h => h
  | c :: l, o, h => okHR_fold l (okHR_step d defs c h)
theorem from_run {n : Nat} {l : List Nm} (G : Heap) (D : List (FuncId × List AVal)) (k : Kont) (hl : l.length ≤ 1099511627776) : ∀ (m i : Nat) (o : List Nm), i + m = l.length → okHR defs n o →
    rounds (fromTurn d full defs n) (m + 1) (fromSt l i (HRn (encDefs full defs) o ++ G) D) k = k (.exit 0) (stL 37 [] [] [] [] (HRn (encDefs full defs) ((l.drop i).foldl (fun o c => dfsD d defs n c o) o) ++ G) D)
  | 0, i, o, he, hn => by
    obtain rfl : i = l.length := by omega
    rw [rounds_succ', from_step0, decide_eq_false (by omega), List.drop_length]
    rfl
  | m + 1, i, o, he, hn => by
    have hi : i < l.length := by omega
    have e1 : l.getD i [] = l[i] := by simp [List.getD_eq_getElem?_getD, List.getElem?_eq_getElem hi]
    rw [List.drop_eq_getElem_cons hi, ← e1, rounds_succ', from_step0, decide_eq_true (show (i : Int) < l.length by omega), wrap_add1 (by omega), Int.toNat_natCast, ofHR_mk, tst_true ⟨rfl, hn⟩]
    exact from_run G D k hl m (i + 1) _ (by omega) (okHR_step d defs _ hn)
theorem fromSp_ok (n : Nat) : SpOK (fromTurn d full defs n) 37 [3,27,28,29] [] [] [] (fromSp d full defs n) := by
  intro vs bs H k out ho
  unfold fromSp at ho
  split at ho
  case h_2 => simp at ho
  rename_i x m z
  rw [Bool.cond_eq_ite] at ho
  split at ho
  case isFalse => simp at ho
  rename_i hc
  obtain ⟨hx, rfl, rfl, hn, rfl, hH, hok⟩ := of_tst hc
  have hl2 : (decL decS x).length = lenL x := lenL_decL (g := decS) hx
  have hs : SubT x (encSs false (decL decS x)) := ((sub_encL hx wfS_sub).trans (Sub.list (fun h => by cases h) (fun i hi => .refl _))).t (list_of_wfL hx)
  rw [← hl2] at hn ⊢
  generalize decL decS x = l at *
  generalize ofHR H = o at *
  generalize H.drop 5 = G at *
  subst hH
  have hrun : ∀ D k, rounds (fromTurn d full defs n) (l.length + 1) (fromSt l 0 (HRn (encDefs full defs) o ++ G) D) k = k (.exit 0) (stL 37 [] [] [] [] (HRn (encDefs full defs) (l.foldl (fun o c => dfsD d defs n c o) o) ++ G) D) := fun D k => by
    have := from_run d full defs G D k hn l.length 0 o (by omega) hok
    simpa using this
  exact ⟨_, _, _, _, _, _, .cons (.refl _) (.cons hs (.refl _)), ⟨_, fun D k => hrun D k⟩, .refl _, ho⟩
noncomputable def layF1 (n : Nat) : Lay := (layF d full defs n).addL 32 (fromFH d full defs n)
abbrev b5 (o : List Nm) (s : Nm) : Heap := HRn (encDefs full defs) o ++ [.var [.str s]]
abbrev q5 (o : List Nm) (s : Nm) : Nm := nmAt 5 (b5 full defs o s)
abbrev bd5 (o : List Nm) (s : Nm) : AVal := (defs.getD ((defs.findIdx (isNm (q5 full defs o s)) : Nat) : Int).toNat def0).body
abbrev a5 (o : List Nm) (s : Nm) : Heap := [.var [encDefs full defs], .var [.own 4 0 (o.length + 1) (o.length - 1 + 1) false], .var [fromV], .var [.str (o.headD [])], .arr 1 ((rowsS o).append [[.str s]]) (o.length - 1 + 1), .var [.str s]]
theorem from_fun (n : Nat) (s : Nm) (o : List Nm) (k : Out → Ans) : iFun Try.prog ((layF1 d full defs n).hd Try.prog) (layF1 d full defs n).fhs 0 32 [.str s, .ptr (.hp 0) 0, .ptr (.hp 1) 0, .ptr (.hp 2) 0] (HRn (encDefs full defs) o) k =
    cond (tst ((34 : Nat) = 34 ∧ true = true ∧ encDefs full defs = encDefs full defs))
      (cond (defs.any (isNm (q5 full defs o s)))
        (cond ((o.length - 1 == o.length - 1 && decide (0 + o.length ≤ (rowsS o).length) && (rowsS o).all (fun r => r.all isPure)) && true)
          (cond (wfL wfS (.list false o.length (fun i => (rowsS o).getD (0 + i) [])) && decide (lenL (.list false o.length (fun i => (rowsS o).getD (0 + i) [])) ≤ 1099511627776))
            (cond ((decL decS (.list false o.length (fun i => (rowsS o).getD (0 + i) []))).contains s) (k (.ret (.tuple []) (b5 full defs o s)))
              (cond (o.length - 1 == o.length - 1 && o.length == (rowsS o).length && decide ((2 * (o.length + 1) + 1000) * 16 ≤ 281474976710656))
                (cond (decide (((defs.findIdx (isNm (q5 full defs o s)) : Nat) : Int) < defs.length))
                  (cond (tst (wfV d (bd5 full defs o s) ∧ cntV d (bd5 full defs o s) ≤ 1099511627776))
                    (cond (tst (wfL wfS (encSs false (callsV d (bd5 full defs o s) [])) = true ∧ ((callsV d (bd5 full defs o s) []).length : Int) = (lenL (encSs false (callsV d (bd5 full defs o s) [])) : Int) ∧ (0 : Int) = 0 ∧ lenL (encSs false (callsV d (bd5 full defs o s) [])) ≤ 1099511627776 ∧ ([] : List (List AVal)) = [] ∧ a5 full defs o s = HRn (encDefs full defs) (ofHR (a5 full defs o s)) ++ (a5 full defs o s).drop 5 ∧ okHR defs n (ofHR (a5 full defs o s))))
                      (k (.ret (.tuple []) (HRn (encDefs full defs) ((decL decS (encSs false (callsV d (bd5 full defs o s) []))).foldl (fun o c => dfsD d defs n c o) (ofHR (a5 full defs o s))) ++ (a5 full defs o s).drop 5))) none) none) none) none)) none) none)
        (k (.ret (.tuple []) (b5 full defs o s)))) none := by kernel_rfl
theorem a5_eq {o : List Nm} (s : Nm) (h : o ≠ []) : a5 full defs o s = HRn (encDefs full defs) (o ++ [s]) ++ [.var [.str s]] := by
  cases o with
  | nil => exact absurd rfl h
  | cons x o =>
    show _ = [Obj.var [encDefs full defs], .var [.own 4 0 ((x :: o) ++ [s]).length (((x :: o) ++ [s]).length - 1) false], .var [fromV], .var [.str (((x :: o) ++ [s]).headD [])], .arr 1 (rowsS ((x :: o) ++ [s])) (((x :: o) ++ [s]).length - 1), .var [.str s]]
    unfold a5
    rw [rows_app]
    simp
theorem from_call {n : Nat} {s : Nm} {o : List Nm} (hd : defs.length ≤ 1099511627776) (hw : ∀ x ∈ defs, wfV d x.body ∧ cntV d x.body ≤ 1099511627776) (h : okHR defs (n + 1) o) (k : Out → Ans) :
    iFun Try.prog ((layF1 d full defs n).hd Try.prog) (layF1 d full defs n).fhs 0 32 [.str s, .ptr (.hp 0) 0, .ptr (.hp 1) 0, .ptr (.hp 2) 0] (HRn (encDefs full defs) o) k = k (.ret (.tuple []) (HRn (encDefs full defs) (dfsD d defs (n + 1) s o) ++ [.var [.str s]])) := by
  obtain ⟨h1, h2, h3⟩ := h
  rw [from_fun, tst_true ⟨rfl, rfl, rfl⟩, rows_pure, rows_len, rows_wf, rows_dec]
  have eq : q5 full defs o s = s := rfl
  have e2 : lenL (.list false o.length (fun i => (rowsS o).getD (0 + i) [])) = o.length := rfl
  rw [eq, e2, decide_eq_true (show o.length ≤ 1099511627776 by omega), decide_eq_true (show 0 + o.length ≤ o.length by omega), decide_eq_true (show (2 * (o.length + 1) + 1000) * 16 ≤ 281474976710656 by omega)]
  simp only [beq_self_eq_true, Bool.and_self, cond_true]
  have ed : dfsD d defs (n + 1) s o = cond (thD defs s && !o.contains s) ((clD d defs s).foldl (fun o c => dfsD d defs n c o) (o ++ [s])) o := rfl
  have et : defs.any (isNm s) = thD defs s := rfl
  rw [ed, et]
  cases ht : thD defs s with
  | false => rfl
  | true =>
    cases hc : o.contains s with
    | true => rfl
    | false =>
      simp only [Bool.not_false, Bool.and_self, cond_true, cond_false]
      have hlt : defs.findIdx (isNm s) < defs.length := List.findIdx_lt_length.2 (by
        unfold thD at ht
        rw [List.any_eq_true] at ht
        exact ht)
      rw [decide_eq_true (show ((defs.findIdx (isNm s) : Nat) : Int) < defs.length by omega)]
      have eb : bd5 full defs o s = (defs.getD (defs.findIdx (isNm s)) def0).body := by
        show (defs.getD ((defs.findIdx (isNm (q5 full defs o s)) : Nat) : Int).toNat def0).body = _
        rw [eq, Int.toNat_natCast]
      have em : defs.getD (defs.findIdx (isNm s)) def0 ∈ defs := by
        rw [List.getD_eq_getElem?_getD, List.getElem?_eq_getElem hlt]
        exact List.getElem_mem hlt
      obtain ⟨w1, w2⟩ := hw _ em
      have ec : callsV d (defs.getD (defs.findIdx (isNm s)) def0).body [] = clD d defs s := rfl
      have hcl : (clD d defs s).length ≤ 1099511627776 := by
        have := callsV_len d (defs.getD (defs.findIdx (isNm s)) def0).body []
        rw [ec] at this
        simp only [List.length_nil] at this
        omega
      have ho : s ∉ o := by simpa using hc
      have hm := miss_lt ho (unD defs) (unD_mem defs ht)
      have ok2 : okHR defs n (o ++ [s]) := ⟨by simp, by omega, by simp only [List.length_append, List.length_singleton]; omega⟩
      rw [eb, ec, tst_true ⟨w1, w2⟩, a5_eq full defs s h1, ofHR_mk, decS_enc, tst_true ⟨wfL_encL (fun _ => rfl) _, rfl, trivial, hcl, trivial, rfl, ok2⟩]
      rfl
theorem refs_HRn (o : List Nm) : ∀ x ∈ HRn (encDefs full defs) o, refsO 5 x = true := by
  intro x hx
  simp only [HRn, List.mem_cons, List.mem_nil_iff, or_false] at hx
  rcases hx with rfl | rfl | rfl | rfl | rfl
  · rfl
  · rfl
  · rfl
  · rfl
  · simp [refsO, rowsS, encS, refsD]
theorem fromTold_ok (hd : defs.length ≤ 1099511627776) (hw : ∀ x ∈ defs, wfV d x.body ∧ cntV d x.body ≤ 1099511627776) : ∀ (n : Nat) (xs : List AVal) (H : Heap) (k : Out → Ans) (out : Out), fromTold d full defs n xs H k = some out → ∃ o, CallOK Try.prog 32 xs H o ∧ k o = some out
  | n, xs, H, k, out, ho => by
    unfold fromTold at ho
    split at ho
    case h_2 => simp at ho
    rename_i s
    rw [Bool.cond_eq_ite] at ho
    split at ho
    case isFalse => simp at ho
    rename_i hc
    obtain ⟨hH, hok⟩ := of_tst hc
    cases n with
    | zero => exact absurd hok.2.1 (Nat.not_lt_zero _)
    | succ n =>
      have hF : (layF d full defs n).OK Try.prog := (((Lay.nil_ok.addF (idxRTold_ok hd)).addF contTold_ok).addF (callsTold_ok d)).addF (fromTold_ok hd hw n)
      have hF1 : (layF1 d full defs n).OK Try.prog := hF.loop1 (id := 5) (by kernel_rfl) (by kernel_rfl) (by kernel_rfl) (fromSp_ok d full defs n)
      generalize ofHR H = o at hH hok ho
      generalize H.drop 5 = G at hH ho
      subst hH
      have c1 := (hF1.call (fun k => from_call d full defs (s := s) hd hw hok k)).shrink (by simp) rfl (refs_HRn full defs _)
      exact ⟨_, c1.frame (by simp) (fun x hx => by
        simp only [List.mem_cons, List.mem_nil_iff, or_false] at hx
        rcases hx with rfl | rfl | rfl | rfl <;> rfl) (refs_HRn full defs _) G, ho⟩
theorem layF_ok (hd : defs.length ≤ 1099511627776) (hw : ∀ x ∈ defs, wfV d x.body ∧ cntV d x.body ≤ 1099511627776) (n : Nat) : (layF d full defs n).OK Try.prog := (((Lay.nil_ok.addF (idxRTold_ok hd)).addF contTold_ok).addF (callsTold_ok d)).addF (fromTold_ok d full defs hd hw n)
theorem layF1_ok (hd : defs.length ≤ 1099511627776) (hw : ∀ x ∈ defs, wfV d x.body ∧ cntV d x.body ≤ 1099511627776) (n : Nat) : (layF1 d full defs n).OK Try.prog := (layF_ok d full defs hd hw n).loop1 (id := 5) (by kernel_rfl) (by kernel_rfl) (by kernel_rfl) (fromSp_ok d full defs n)
end
end Go.Mu
