/-
  What (*code.writer).put does.
-/
import Derived.Test.YtlbmedmddoljnaaWCopy
import Derived.Test.YtlbmedmddoljnaaCodeOp
set_option linter.unusedVariables false
set_option linter.unusedSimpArgs false
set_option maxRecDepth 100000
namespace Go.Mu
open Go Go.Proofs
theorem sub_rowC (c : CallD) : SubL (rowC (cpCall c)) (encCall (cpCall c)) := by
  refine .cons (.refl _) (.cons (Sub.list (fun h => h) (fun i hi => ?_)) .nil)
  have : (rowsE encArg (cpCall c).args).getD (0 + i) [] = encArg ((cpCall c).args.getD i argD0) := by
    simp only [Nat.zero_add, rowsE, List.getD_eq_getElem?_getD, List.getElem?_map, List.getElem?_eq_getElem hi, Option.map_some, Option.getD_some]
  rw [this]; exact .refl _
theorem cp_ok (full : Bool) (l : List CallD) (h : okCs l) : CallOK Try.prog 74 [encPipe full l] [] (.ret (encPipe false (l.map cpCall)) []) := by
  have key := fun k => cp_fun full l k
  have hl := h.2.2
  rw [decPipe_enc, tst_true ⟨rfl, h, rfl, rfl⟩, decide_eq_true (show (0 : Int) ≤ l.length by omega), decide_eq_true (show ((40 : Nat) : Int) * l.length ≤ 281474976710656 by omega), decide_eq_true (show (l.length : Int) ≤ 9223372036854775807 by omega)] at key
  have er : rowsC l l.length = l.map (fun c => rowC (cpCall c)) := by simp [rowsC]
  have h1 : CallOK Try.prog 74 [encPipe full l] [] (.ret (.own 0 0 l.length l.length false) [.arr 2 (rowsC l l.length) l.length]) := layCq_ok.call (fun k => key k)
  refine (h1.freeze (d := 3) (v' := .list false l.length (fun i => (rowsC l l.length).getD i [])) ?_).sub (.refl _) ⟨?_, rfl⟩
  · exact freezeW (H := [.arr 2 (rowsC l l.length) l.length]) rfl (by rw [er]; simp) (by
      rw [List.drop_zero, List.take_of_length_le (by rw [er]; simp)]
      exact freeze_pures _ 1 _ (fun r hr => by
        rw [er] at hr
        obtain ⟨x, _, rfl⟩ := List.mem_map.1 hr
        rfl))
  · have e1 : l.length = (l.map cpCall).length := by simp
    rw [er]
    show Sub (.list false l.length _) (.list false (l.map cpCall).length _)
    rw [← e1]
    refine Sub.list (fun h => h) (fun i hi => ?_)
    have e2 : (l.map (fun c => rowC (cpCall c))).getD i [] = rowC (cpCall l[i]) := by
      simp only [List.getD_eq_getElem?_getD, List.getElem?_map, List.getElem?_eq_getElem hi, Option.map_some, Option.getD_some]
    have e3 : (l.map cpCall).getD i callD0 = cpCall l[i] := by
      simp only [List.getD_eq_getElem?_getD, List.getElem?_map, List.getElem?_eq_getElem hi, Option.map_some, Option.getD_some]
    rw [e2, e3]
    exact sub_rowC _
noncomputable def cpTold : FSp := fun xs H k => match xs, H with
  | [x], [] => cond (tst (x = encPipe (fullOf x) (decL decCall x) ∧ okCs (decL decCall x))) (k (.ret (encPipe false ((decL decCall x).map cpCall)) [])) none
  | _, _ => none
theorem cpTold_ok (xs : List AVal) (H : Heap) (k : Out → Ans) (out : Out) (ho : cpTold xs H k = some out) : ∃ o, CallOK Try.prog 74 xs H o ∧ k o = some out := by
  unfold cpTold at ho
  split at ho
  · rename_i x
    rw [Bool.cond_eq_ite] at ho
    split at ho
    · rename_i hc
      obtain ⟨hx, hn⟩ := of_tst hc
      generalize fullOf x = full at hx
      generalize decL decCall x = l at hx hn ho
      subst hx
      exact ⟨_, cp_ok full l hn, ho⟩
    · simp at ho
  · simp at ho
noncomputable def layPu : Lay := Lay.nil.addF 74 cpTold
theorem layPu_ok : layPu.OK Try.prog := Lay.nil_ok.addF cpTold_ok
/-- the writer's heap: the steps, behind whatever else there is -/
def Hw (U : Obj) (ops : List OpD) : Heap := match ops with
  | [] => [.var [nilList], U]
  | ops => [.var [.own 2 0 ops.length (ops.length - 1) false], U, .arr 5 (rowsE encOp ops) (ops.length - 1)]
def ofHw : Heap → List OpD
  | [_, _, .arr _ rows _] => rows.map decOp
  | _ => []
def cpOp (x : OpD) : OpD := ⟨x.kind, x.a, x.text, false, x.pipe.map cpCall, x.at_⟩
abbrev xP (x : OpD) : List CallD := decL decCall (encPipe x.pf x.pipe)
abbrev xRow (x : OpD) : List AVal := [.int .i64 x.kind, .int .i64 x.a, .str x.text, encPipe false ((xP x).map cpCall), .int .i64 x.at_]
theorem put_fun (x : OpD) (n u : Nat) (U : Obj) (rows : List (List AVal)) (k : Out → Ans) : iFun Try.prog (layPu.hd Try.prog) layPu.fhs 0 39 [.ptr (.hp 0) 0, .agg (encOp x)] [.var [.own 2 0 n u false], U, .arr 5 rows u] k =
    cond (tst (encPipe x.pf x.pipe = encPipe (fullOf (encPipe x.pf x.pipe)) (xP x) ∧ okCs (xP x)))
      (cond (u == u && n == rows.length && decide ((2 * (n + 1) + 1000) * 64 ≤ 281474976710656))
        (k (.ret (.int .i64 (IntKind.i64.wrap (((n + 1 : Nat) : Int) - 1))) [.var [.own 2 0 (n + 1) (u + 1) false], U, .arr 5 (rows.append [xRow x]) (u + 1)])) none) none := by kernel_rfl
theorem put_fun0 (x : OpD) (U : Obj) (k : Out → Ans) : iFun Try.prog (layPu.hd Try.prog) layPu.fhs 0 39 [.ptr (.hp 0) 0, .agg (encOp x)] [.var [nilList], U] k =
    cond (tst (encPipe x.pf x.pipe = encPipe (fullOf (encPipe x.pf x.pipe)) (xP x) ∧ okCs (xP x)))
      (k (.ret (.int .i64 (IntKind.i64.wrap (((0 + 1 : Nat) : Int) - 1))) [.var [.own 2 0 (0 + 1) 0 false], U, .arr 5 [xRow x] 0])) none := by kernel_rfl
/-- the same, of steps there are -/
abbrev HwN (U : Obj) (ops : List OpD) : Heap := [.var [.own 2 0 ops.length (ops.length - 1) false], U, .arr 5 (rowsE encOp ops) (ops.length - 1)]
def uOf : Heap → Obj
  | [_, U] => U
  | [_, U, _] => U
  | _ => .var []
theorem decOps_rows (l : List OpD) : (rowsE encOp l).map decOp = l := by
  unfold rowsE
  rw [List.map_map]
  conv => rhs; rw [← List.map_id l]
  exact List.map_congr_left (fun a _ => decOp_enc a)
theorem Hw_ne {U : Obj} {ops : List OpD} (h : ops ≠ []) : Hw U ops = HwN U ops := by
  cases ops with
  | nil => exact absurd rfl h
  | cons x ops => rfl
theorem ofHw_mk (U : Obj) (ops : List OpD) : ofHw (Hw U ops) = ops ∧ uOf (Hw U ops) = U := by
  cases ops with
  | nil => exact ⟨rfl, rfl⟩
  | cons x ops => exact ⟨decOps_rows _, rfl⟩
theorem ofHwN (U : Obj) (ops : List OpD) : ofHw (HwN U ops) = ops ∧ uOf (HwN U ops) = U := ⟨decOps_rows _, rfl⟩
theorem put_call {x : OpD} {U : Obj} {ops : List OpD} (hx : okCs x.pipe) (hl : ops.length ≤ 1099511627776) (k : Out → Ans) : iFun Try.prog (layPu.hd Try.prog) layPu.fhs 0 39 [.ptr (.hp 0) 0, .agg (encOp x)] (Hw U ops) k = k (.ret (.int .i64 ops.length) (HwN U (ops ++ [cpOp x]))) := by
  have e1 : xP x = x.pipe := decPipe_enc _ _
  have e2 : xRow x = encOp (cpOp x) := by unfold xRow; rw [e1]; rfl
  cases ops with
  | nil =>
    rw [show Hw U [] = [.var [nilList], U] from rfl, put_fun0, e2, e1, tst_true ⟨rfl, hx⟩]
    rfl
  | cons y ops =>
    rw [Hw_ne (by simp), put_fun, e2, e1, tst_true ⟨rfl, hx⟩]
    have e3 : (rowsE encOp (y :: ops)).length = (y :: ops).length := by simp [rowsE]
    have e4 : (rowsE encOp (y :: ops)).append [encOp (cpOp x)] = rowsE encOp ((y :: ops) ++ [cpOp x]) := by
      show rowsE encOp (y :: ops) ++ _ = _
      simp [rowsE]
    have e5 : IntKind.i64.wrap ((((y :: ops).length + 1 : Nat) : Int) - 1) = ((y :: ops).length : Int) := by
      rw [show (((y :: ops).length + 1 : Nat) : Int) - 1 = (y :: ops).length by omega]
      simp only [List.length_cons] at hl ⊢
      simp [IntKind.wrap, IntKind.signed, IntKind.bits]
      omega
    rw [e3, e4, e5, decide_eq_true (show (2 * ((y :: ops).length + 1) + 1000) * 64 ≤ 281474976710656 by omega)]
    simp only [beq_self_eq_true, Bool.and_self, cond_true]
    have e6 : HwN U ((y :: ops) ++ [cpOp x]) = [.var [.own 2 0 ((y :: ops).length + 1) ((y :: ops).length - 1 + 1) false], U, .arr 5 (rowsE encOp ((y :: ops) ++ [cpOp x])) ((y :: ops).length - 1 + 1)] := by
      simp
    rw [e6]
noncomputable def putTold : FSp := fun xs H k => match xs with
  | [.ptr (.hp 0) 0, .agg x] => cond (tst (SubL x (encOp (decOp x)) ∧ okCs (decOp x).pipe ∧ H = Hw (uOf H) (ofHw H) ∧ (ofHw H).length ≤ 1099511627776)) (k (.ret (.int .i64 (ofHw H).length) (HwN (uOf H) (ofHw H ++ [cpOp (decOp x)])))) none
  | _ => none
theorem putTold_ok (xs : List AVal) (H : Heap) (k : Out → Ans) (out : Out) (ho : putTold xs H k = some out) : ∃ o, CallOK Try.prog 39 xs H o ∧ k o = some out := by
  unfold putTold at ho
  split at ho
  · rename_i x
    rw [Bool.cond_eq_ite] at ho
    split at ho
    · rename_i hc
      obtain ⟨hx, hp, hH, hn⟩ := of_tst hc
      generalize decOp x = y at hx hp ho
      generalize uOf H = U at hH ho
      generalize ofHw H = ops at hH hn ho
      subst hH
      exact ⟨_, (layPu_ok.call (put_call hp hn)).subArgs (.cons (.refl _) (.cons (Sub.agg hx) .nil)), ho⟩
    · simp at ho
  · simp at ho
end Go.Mu
