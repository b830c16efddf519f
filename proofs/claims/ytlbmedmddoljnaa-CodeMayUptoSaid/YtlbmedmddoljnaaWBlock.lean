/-
  What (*code.writer).block does.
-/
import Derived.Test.YtlbmedmddoljnaaWNode
set_option linter.unusedVariables false
set_option linter.unusedSimpArgs false
set_option maxRecDepth 100000
namespace Go.Mu
open Go Go.Proofs
theorem putM_len (ops : List OpD) (x : OpD) : (putM ops x).length = ops.length + 1 := by simp [putM]
theorem setA_len (ops : List OpD) (i : Nat) (a : Int) : (setA ops i a).length = ops.length := by simp [setA]
/-- how many steps are written -/
structure Adds (f : List OpD → List OpD) (c : Nat) : Prop where
  lo : ∀ ops, ops.length ≤ (f ops).length
  hi : ∀ ops, (f ops).length ≤ ops.length + c
/-- what is left of a block, behind its body -/
def tailM (w2 : List OpD → List OpD) (n : NdE) (h : Nat) (o3 : List OpD) : List OpD :=
  let o4 := putM o3 ⟨7, 0, [], true, [], n.at_⟩
  let o5 := putM o4 ⟨8, 0, [], true, [], n.at_⟩
  let o8 := putM (w2 (setA o5 h o5.length)) ⟨7, 0, [], true, [], n.at_⟩
  setA o8 o4.length o8.length
theorem blockM_tail (w1 w2 : List OpD → List OpD) (q : Int) (n : NdE) (ops : List OpD) : blockM w1 w2 q n ops = tailM w2 n ops.length (cond (q == 6) (putM (w1 (putM ops ⟨q, 0, [], n.pf, n.pipe, n.at_⟩)) ⟨9, (ops.length : Int) + 1, [], true, [], n.at_⟩) (w1 (putM ops ⟨q, 0, [], n.pf, n.pipe, n.at_⟩))) := rfl
theorem tailM_adds {w2 : List OpD → List OpD} {c2 : Nat} (h2 : Adds w2 c2) (n : NdE) (h : Nat) (o3 : List OpD) : o3.length ≤ (tailM w2 n h o3).length ∧ (tailM w2 n h o3).length ≤ o3.length + (3 + c2) := by
  unfold tailM
  simp only [setA_len]
  have l4 := putM_len o3 ⟨7, 0, [], true, [], n.at_⟩
  have l5 := putM_len (putM o3 ⟨7, 0, [], true, [], n.at_⟩) ⟨8, 0, [], true, [], n.at_⟩
  generalize putM o3 ⟨7, 0, [], true, [], n.at_⟩ = o4 at *
  generalize putM o4 ⟨8, 0, [], true, [], n.at_⟩ = o5 at *
  have l6 := setA_len o5 h o5.length
  have hi := h2.hi (setA o5 h o5.length)
  have lo := h2.lo (setA o5 h o5.length)
  have l8 := putM_len (w2 (setA o5 h o5.length)) ⟨7, 0, [], true, [], n.at_⟩
  omega
theorem blockM_adds {w1 w2 : List OpD → List OpD} {c1 c2 : Nat} (h1 : Adds w1 c1) (h2 : Adds w2 c2) (q : Int) (n : NdE) : Adds (blockM w1 w2 q n) (5 + c1 + c2) := by
  have key : ∀ ops, ops.length ≤ (blockM w1 w2 q n ops).length ∧ (blockM w1 w2 q n ops).length ≤ ops.length + (5 + c1 + c2) := fun ops => by
    rw [blockM_tail]
    have l1 := putM_len ops ⟨q, 0, [], n.pf, n.pipe, n.at_⟩
    have hi := h1.hi (putM ops ⟨q, 0, [], n.pf, n.pipe, n.at_⟩)
    have lo := h1.lo (putM ops ⟨q, 0, [], n.pf, n.pipe, n.at_⟩)
    generalize w1 (putM ops ⟨q, 0, [], n.pf, n.pipe, n.at_⟩) = o2 at *
    have l3 := putM_len o2 ⟨9, (ops.length : Int) + 1, [], true, [], n.at_⟩
    cases q == 6
    · simp only [cond_false]
      have := tailM_adds h2 n ops.length o2
      omega
    · simp only [cond_true]
      have := tailM_adds h2 n ops.length (putM o2 ⟨9, (ops.length : Int) + 1, [], true, [], n.at_⟩)
      omega
  exact ⟨fun ops => (key ops).1, fun ops => (key ops).2⟩
theorem nodeM_adds {w1 w2 : List OpD → List OpD} {c1 c2 : Nat} (h1 : Adds w1 c1) (h2 : Adds w2 c2) (n : NdE) : Adds (nodeM w1 w2 n) (5 + c1 + c2) := by
  have b := fun q => blockM_adds h1 h2 q n
  have one : ∀ x, Adds (fun ops => putM ops x) (5 + c1 + c2) := fun x => ⟨fun ops => by simp [putM_len], fun ops => by simp only [putM_len]; omega⟩
  have key : ∀ {c : Bool} {f g : List OpD → List OpD}, Adds f (5 + c1 + c2) → Adds g (5 + c1 + c2) → Adds (fun ops => cond c (f ops) (g ops)) (5 + c1 + c2) := fun {c f g} hf hg => by
    cases c
    · exact hg
    · exact hf
  unfold nodeM
  exact key (one _) (key (one _) (key (b 4) (key (b 6) (key (b 5) (key (one _) (key (one _) ⟨fun ops => Nat.le_refl _, fun ops => by omega⟩))))))
theorem writeM_adds : ∀ (d : Nat) (x : AVal), Adds (writeM d x) (cntW d x)
  | 0, x => ⟨fun ops => Nat.le_refl _, fun ops => by simp [writeM, cntW]⟩
  | d + 1, x => by
    have hn : ∀ n, Adds (nodeM (writeM d n.body) (writeM d n.els) n) (5 + cntW d n.body + cntW d n.els) := fun n => nodeM_adds (writeM_adds d n.body) (writeM_adds d n.els) n
    have go : ∀ l : List NdE, Adds (fun ops => l.foldl (fun ops n => nodeM (writeM d n.body) (writeM d n.els) n ops) ops) ((l.map (fun n => 5 + cntW d n.body + cntW d n.els)).sum) := by
      intro l
      induction l with
      | nil => exact ⟨fun ops => Nat.le_refl _, fun ops => by simp⟩
      | cons n l ih =>
        refine ⟨fun ops => ?_, fun ops => ?_⟩
        · simp only [List.foldl_cons]
          exact Nat.le_trans ((hn n).lo ops) (ih.lo _)
        · simp only [List.foldl_cons, List.map_cons, List.sum_cons]
          have h1 := (hn n).hi ops
          have h2 := ih.hi (nodeM (writeM d n.body) (writeM d n.els) n ops)
          omega
    exact go (nodesE x)
theorem ne_of_len {ops : List OpD} (h : 0 < ops.length) : ops ≠ [] := fun e => by subst e; simp at h
section
variable {U : Obj} {o : List OpD} {k0 a0 at0 : Int} {t0 : List UInt8}
theorem eZ_sub : SubL (eZ k0 a0 t0 at0) (encOp (decOp (eZ k0 a0 t0 at0))) :=
  .cons (.refl _) (.cons (.refl _) (.cons (.refl _) (.cons (Sub.list (fun h => h) (fun i hi => by simp at hi)) (.cons (.refl _) .nil))))
theorem okCs_nil : okCs [] := ⟨⟨Nat.zero_le _, fun c hc => (by cases hc)⟩, fun c hc => (by cases hc), Nat.zero_le _⟩
theorem oP_eZ : oP (eZ k0 a0 t0 at0) (HwN U o) = putM o ⟨k0, a0, t0, true, [], at0⟩ := by
  unfold oP
  rw [(ofHwN U o).1]; rfl
theorem hP_eZ : hP (eZ k0 a0 t0 at0) (HwN U o) = HwN U (putM o ⟨k0, a0, t0, true, [], at0⟩) := by
  unfold hP
  rw [oP_eZ, (ofHwN U o).2]
theorem tP_eZ (h0 : 0 < o.length) (h : o.length ≤ 1099511627776) : tP (eZ k0 a0 t0 at0) (HwN U o) = true := by
  unfold tP
  rw [(ofHwN U o).1, (ofHwN U o).2]
  exact tst_true ⟨eZ_sub, okCs_nil, (Hw_ne (ne_of_len h0)).symm, h⟩
theorem tN_true {d : Nat} {x : AVal} (h0 : 0 < o.length) (hw : wfW d x) (h : o.length + cntW d x ≤ 1099511627776) : tN d x (HwN U o) = true := by
  unfold tN
  rw [(ofHwN U o).1, (ofHwN U o).2]
  exact tst_true ⟨hw, ne_of_len h0, rfl, h⟩
theorem hN_eq {d : Nat} {x : AVal} : hN d x (HwN U o) = HwN U (writeM d x o) := by
  unfold hN
  rw [(ofHwN U o).1, (ofHwN U o).2]
theorem hS_eq {p : Nat} (hp : p < o.length) : hS p o U = HwN U (setA o p o.length) := by
  have e1 : (rowsE encOp o).getD p [] = encOp (o.getD p opD0) := by
    simp only [rowsE, List.getD_eq_getElem?_getD, List.getElem?_map, List.getElem?_eq_getElem hp, Option.map_some, Option.getD_some]
  have e2 : (rowsE encOp o).set p ((encOp (o.getD p opD0)).set 1 (.int .i64 o.length)) = rowsE encOp (setA o p o.length) := by
    unfold setA rowsE
    rw [List.map_set]
    rfl
  unfold hS HwN
  rw [Int.toNat_natCast, Nat.zero_add, e1, e2, setA_len]
theorem cS_true {p : Nat} (hp : p < o.length) (X : Ans) : cS p o X = X := by
  have e : (rowsE encOp o).length = o.length := by simp [rowsE]
  unfold cS
  rw [Int.toNat_natCast, Nat.zero_add, e, decide_eq_true (show (p : Int) < o.length by omega), decide_eq_true hp]
  simp
end
theorem bCont_eq {d : Nat} {n : NdE} {h : Nat} {U : Obj} {o3 : List OpD} (k : Out → Ans) (h0 : h < o3.length) (hw : wfW d n.els) (hb : o3.length + (3 + cntW d n.els) ≤ 1099511627776) : bCont d n h (HwN U o3) k = k (.ret (.tuple []) (HwN U (tailM (writeM d n.els) n h o3))) := by
  have wa := writeM_adds d n.els
  have l4 := putM_len o3 ⟨7, 0, [], true, [], n.at_⟩
  have l5 := putM_len (putM o3 ⟨7, 0, [], true, [], n.at_⟩) ⟨8, 0, [], true, [], n.at_⟩
  unfold bCont
  rw [tP_eZ (by omega) (by omega), hP_eZ, tP_eZ (by omega) (by omega), oP_eZ, (ofHwN U _).1, (ofHwN U _).2]
  unfold tailM
  simp only
  generalize hq4 : putM o3 ⟨7, 0, [], true, [], n.at_⟩ = o4 at *
  generalize hq5 : putM o4 ⟨8, 0, [], true, [], n.at_⟩ = o5 at *
  have l6 := setA_len o5 h o5.length
  have hi := wa.hi (setA o5 h o5.length)
  have lo := wa.lo (setA o5 h o5.length)
  rw [cS_true (by omega), hS_eq (by omega)]
  generalize hq6 : setA o5 h o5.length = o6 at *
  rw [tN_true (by omega) hw (by omega), hN_eq]
  generalize hq7 : writeM d n.els o6 = o7 at *
  have l8 := putM_len o7 ⟨7, 0, [], true, [], n.at_⟩
  rw [tP_eZ (by omega) (by omega), oP_eZ, (ofHwN U _).2]
  generalize hq8 : putM o7 ⟨7, 0, [], true, [], n.at_⟩ = o8 at *
  rw [cS_true (by omega), hS_eq (by omega)]
  rfl
theorem block_call {d : Nat} {n : NdE} {q : Int} {U : Obj} {ops : List OpD} (hp : okCs n.pipe) (h1 : wfW d n.body) (h2 : wfW d n.els) (hb : ops.length + (5 + cntW d n.body + cntW d n.els) ≤ 1099511627776) (k : Out → Ans) :
    iFun Try.prog ((layBl d).hd Try.prog) (layBl d).fhs 0 73 [.ptr (.hp 0) 0, .int .i64 q, .agg (encNe n)] (Hw U ops) k = k (.ret (.tuple []) (HwN U (blockM (writeM d n.body) (writeM d n.els) q n ops))) := by
  rw [block_fun, blockM_tail]
  have e0 : decOp (e1B q n) = ⟨q, 0, [], n.pf, n.pipe, n.at_⟩ := decOp_enc _
  have t1 : tP (e1B q n) (Hw U ops) = true := by
    unfold tP
    rw [e0, (ofHw_mk U ops).1, (ofHw_mk U ops).2]
    exact tst_true ⟨.refl _, hp, rfl, by omega⟩
  have eH : hP (e1B q n) (Hw U ops) = HwN U (putM ops ⟨q, 0, [], n.pf, n.pipe, n.at_⟩) := by
    unfold hP oP
    rw [e0, (ofHw_mk U ops).1, (ofHw_mk U ops).2]; rfl
  have l1 := putM_len ops ⟨q, 0, [], n.pf, n.pipe, n.at_⟩
  have wa := writeM_adds d n.body
  have hi := wa.hi (putM ops ⟨q, 0, [], n.pf, n.pipe, n.at_⟩)
  have lo := wa.lo (putM ops ⟨q, 0, [], n.pf, n.pipe, n.at_⟩)
  rw [t1, eH, tN_true (by omega) h1 (by omega), hN_eq, (ofHw_mk U ops).1, wrap_add1 (by omega)]
  generalize writeM d n.body (putM ops ⟨q, 0, [], n.pf, n.pipe, n.at_⟩) = o2 at *
  have ei : ((ops.length + 1 : Nat) : Int) = (ops.length : Int) + 1 := by omega
  rw [ei]
  cases q == 6
  · simp only [cond_true, cond_false]
    exact bCont_eq k (by omega) h2 (by omega)
  · simp only [cond_true]
    have l3 := putM_len o2 ⟨9, (ops.length : Int) + 1, [], true, [], n.at_⟩
    rw [tP_eZ (by omega) (by omega), hP_eZ, cond_true]
    exact bCont_eq k (by omega) h2 (by omega)
noncomputable def blockTold (d : Nat) : FSp := fun xs H k => match xs with
  | [.ptr (.hp 0) 0, .int .i64 q, .agg x] => cond (tst (x = encNe (decNe x) ∧ okCs (decNe x).pipe ∧ wfW d (decNe x).body ∧ wfW d (decNe x).els ∧ H = Hw (uOf H) (ofHw H) ∧ (ofHw H).length + (5 + cntW d (decNe x).body + cntW d (decNe x).els) ≤ 1099511627776))
      (k (.ret (.tuple []) (HwN (uOf H) (blockM (writeM d (decNe x).body) (writeM d (decNe x).els) q (decNe x) (ofHw H))))) none
  | _ => none
end Go.Mu
