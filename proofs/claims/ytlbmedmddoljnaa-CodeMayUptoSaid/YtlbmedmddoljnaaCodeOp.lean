/-
  Codes as data; what code.may and muslinlaw42.may tell.
-/
import Derived.Test.YtlbmedmddoljnaaPSameR
set_option linter.unusedVariables false
set_option linter.unusedSimpArgs false
set_option maxRecDepth 100000
namespace Go.Mu
open Go Go.Proofs
structure OpD where
  kind : Int
  a : Int
  text : List UInt8
  pf : Bool
  pipe : List CallD
  at_ : Int
def opD0 : OpD := ⟨0, 0, [], true, [], 0⟩
def encOp (o : OpD) : List AVal := [.int .i64 o.kind, .int .i64 o.a, .str o.text, encPipe o.pf o.pipe, .int .i64 o.at_]
def decOp (r : List AVal) : OpD := ⟨intOf (r.getD 0 .undef), intOf (r.getD 1 .undef), strOf (r.getD 2 .undef), fullOf (r.getD 3 .undef), decL decCall (r.getD 3 .undef), intOf (r.getD 4 .undef)⟩
def okOpD (o : OpD) : Prop := okPipe o.pipe
theorem decOp_enc (o : OpD) : decOp (encOp o) = o := by
  cases o
  simp only [decOp, encOp, List.getD_cons_zero, List.getD_cons_succ, intOf, strOf, fullOf]
  rw [decPipe_enc]
def encI (n : Int) : List AVal := [.int .i64 n]
def decI (r : List AVal) : Int := intOf (r.getD 0 .undef)
structure CodeD where
  of_ : Bool
  ops : List OpD
  uf : Bool
  units : List Int
abbrev encOps (full : Bool) (l : List OpD) : AVal := encL full encOp opD0 l
abbrev encIs (full : Bool) (l : List Int) : AVal := encL full encI 0 l
theorem decOps_enc (full : Bool) (l : List OpD) : decL decOp (encOps full l) = l := decL_encL decOp_enc l
theorem decIs_enc (full : Bool) (l : List Int) : decL decI (encIs full l) = l := decL_encL (fun _ => rfl) l
def encCode (c : CodeD) : List AVal := [encOps c.of_ c.ops, encIs c.uf c.units]
def decCode (r : List AVal) : CodeD := ⟨fullOf (r.getD 0 .undef), decL decOp (r.getD 0 .undef), fullOf (r.getD 1 .undef), decL decI (r.getD 1 .undef)⟩
theorem decCode_enc (c : CodeD) : decCode (encCode c) = c := by
  cases c
  simp only [decCode, encCode, List.getD_cons_zero, List.getD_cons_succ, fullOf]
  rw [decOps_enc, decIs_enc]
def okCode (c : CodeD) : Prop := c.ops.length ≤ 1099511627776 ∧ c.units.length ≤ 1099511627776 ∧ ∀ o ∈ c.ops, okOpD o
/-- may a step be? -/
def opB (x : OpD) (no nu : Int) : Bool :=
  cond (x.kind == 1) true (cond (x.kind == 7) true (cond (x.kind == 11) true (cond (x.kind == 2) (pipeB x.pipe && decide (x.a ≥ 1) && decide (x.a ≤ 12)) (cond (x.kind == 3) (pipeB x.pipe)
    (cond (x.kind == 4 || x.kind == 5 || x.kind == 6) (pipeB x.pipe && (decide (x.a ≥ 0) && decide (x.a < no))) (cond (x.kind == 8 || x.kind == 9) (decide (x.a ≥ 0) && decide (x.a < no))
      (cond (x.kind == 10) ((pipeB x.pipe || ((x.pipe.length : Int) == 0)) && decide (x.a ≥ 0) && decide (x.a < nu)) false)))))))
theorem errB (b : Bool) : ((bif b then (0 : Int) else 9) == 0) = b := by cases b <;> rfl
noncomputable def pOpTree (x : OpD) (c : CodeD) (k : Out → Ans) : Ans :=
  bif tst (encPipe x.pf x.pipe = encPipe (fullOf (encPipe x.pf x.pipe)) (decL decCall (encPipe x.pf x.pipe)) ∧ okPipe (decL decCall (encPipe x.pf x.pipe))) then
  bif x.kind == 1 then
  bif x.kind == 1 then k (Out.ret (AVal.bool true) [])
  else
  bif x.kind == 2 then k (Out.ret (AVal.bool (bif
  bif (bif pipeB (decL decCall (encPipe x.pf x.pipe)) then (0 : Int)
  else 9) == 0 then decide (x.a ≥ 1)
  else false then decide (x.a ≤ 12)
  else false)) [])
  else
  bif x.kind == 3 then k (Out.ret (AVal.bool ((bif pipeB (decL decCall (encPipe x.pf x.pipe)) then (0 : Int)
  else 9) == 0)) [])
  else
  bif x.kind == 4 then
  bif x.kind == 4 then k (Out.ret (AVal.bool (bif (bif pipeB (decL decCall (encPipe x.pf x.pipe)) then (0 : Int)
  else 9) == 0 then
  bif decide (x.a ≥ 0) then decide (x.a < (↑c.ops.length : Int))
  else false
  else false)) [])
  else
  bif x.kind == 8 then
  bif x.kind == 8 then k (Out.ret (AVal.bool (bif decide (x.a ≥ 0) then decide (x.a < (↑c.ops.length : Int))
  else false)) [])
  else
  bif x.kind == 10 then k (Out.ret (AVal.bool (bif
  bif
  bif (bif pipeB (decL decCall (encPipe x.pf x.pipe)) then (0 : Int)
  else 9) == 0 then true
  else (↑x.pipe.length : Int) == 0 then decide (x.a ≥ 0)
  else false then decide (x.a < (↑c.units.length : Int))
  else false)) [])
  else k (Out.ret (AVal.bool false) [])
  else
  bif x.kind == 9 then k (Out.ret (AVal.bool (bif decide (x.a ≥ 0) then decide (x.a < (↑c.ops.length : Int))
  else false)) [])
  else
  bif x.kind == 10 then k (Out.ret (AVal.bool (bif
  bif
  bif (bif pipeB (decL decCall (encPipe x.pf x.pipe)) then (0 : Int)
  else 9) == 0 then true
  else (↑x.pipe.length : Int) == 0 then decide (x.a ≥ 0)
  else false then decide (x.a < (↑c.units.length : Int))
  else false)) [])
  else k (Out.ret (AVal.bool false) [])
  else
  bif x.kind == 5 then
  bif x.kind == 5 then k (Out.ret (AVal.bool (bif (bif pipeB (decL decCall (encPipe x.pf x.pipe)) then (0 : Int)
  else 9) == 0 then
  bif decide (x.a ≥ 0) then decide (x.a < (↑c.ops.length : Int))
  else false
  else false)) [])
  else
  bif x.kind == 8 then
  bif x.kind == 8 then k (Out.ret (AVal.bool (bif decide (x.a ≥ 0) then decide (x.a < (↑c.ops.length : Int))
  else false)) [])
  else
  bif x.kind == 10 then k (Out.ret (AVal.bool (bif
  bif
  bif (bif pipeB (decL decCall (encPipe x.pf x.pipe)) then (0 : Int)
  else 9) == 0 then true
  else (↑x.pipe.length : Int) == 0 then decide (x.a ≥ 0)
  else false then decide (x.a < (↑c.units.length : Int))
  else false)) [])
  else k (Out.ret (AVal.bool false) [])
  else
  bif x.kind == 9 then k (Out.ret (AVal.bool (bif decide (x.a ≥ 0) then decide (x.a < (↑c.ops.length : Int))
  else false)) [])
  else
  bif x.kind == 10 then k (Out.ret (AVal.bool (bif
  bif
  bif (bif pipeB (decL decCall (encPipe x.pf x.pipe)) then (0 : Int)
  else 9) == 0 then true
  else (↑x.pipe.length : Int) == 0 then decide (x.a ≥ 0)
  else false then decide (x.a < (↑c.units.length : Int))
  else false)) [])
  else k (Out.ret (AVal.bool false) [])
  else
  bif x.kind == 6 then k (Out.ret (AVal.bool (bif (bif pipeB (decL decCall (encPipe x.pf x.pipe)) then (0 : Int)
  else 9) == 0 then
  bif decide (x.a ≥ 0) then decide (x.a < (↑c.ops.length : Int))
  else false
  else false)) [])
  else
  bif x.kind == 8 then
  bif x.kind == 8 then k (Out.ret (AVal.bool (bif decide (x.a ≥ 0) then decide (x.a < (↑c.ops.length : Int))
  else false)) [])
  else
  bif x.kind == 10 then k (Out.ret (AVal.bool (bif
  bif
  bif (bif pipeB (decL decCall (encPipe x.pf x.pipe)) then (0 : Int)
  else 9) == 0 then true
  else (↑x.pipe.length : Int) == 0 then decide (x.a ≥ 0)
  else false then decide (x.a < (↑c.units.length : Int))
  else false)) [])
  else k (Out.ret (AVal.bool false) [])
  else
  bif x.kind == 9 then k (Out.ret (AVal.bool (bif decide (x.a ≥ 0) then decide (x.a < (↑c.ops.length : Int))
  else false)) [])
  else
  bif x.kind == 10 then k (Out.ret (AVal.bool (bif
  bif
  bif (bif pipeB (decL decCall (encPipe x.pf x.pipe)) then (0 : Int)
  else 9) == 0 then true
  else (↑x.pipe.length : Int) == 0 then decide (x.a ≥ 0)
  else false then decide (x.a < (↑c.units.length : Int))
  else false)) [])
  else k (Out.ret (AVal.bool false) [])
  else
  bif x.kind == 7 then
  bif x.kind == 7 then k (Out.ret (AVal.bool true) [])
  else
  bif x.kind == 2 then k (Out.ret (AVal.bool (bif
  bif (bif pipeB (decL decCall (encPipe x.pf x.pipe)) then (0 : Int)
  else 9) == 0 then decide (x.a ≥ 1)
  else false then decide (x.a ≤ 12)
  else false)) [])
  else
  bif x.kind == 3 then k (Out.ret (AVal.bool ((bif pipeB (decL decCall (encPipe x.pf x.pipe)) then (0 : Int)
  else 9) == 0)) [])
  else
  bif x.kind == 4 then
  bif x.kind == 4 then k (Out.ret (AVal.bool (bif (bif pipeB (decL decCall (encPipe x.pf x.pipe)) then (0 : Int)
  else 9) == 0 then
  bif decide (x.a ≥ 0) then decide (x.a < (↑c.ops.length : Int))
  else false
  else false)) [])
  else
  bif x.kind == 8 then
  bif x.kind == 8 then k (Out.ret (AVal.bool (bif decide (x.a ≥ 0) then decide (x.a < (↑c.ops.length : Int))
  else false)) [])
  else
  bif x.kind == 10 then k (Out.ret (AVal.bool (bif
  bif
  bif (bif pipeB (decL decCall (encPipe x.pf x.pipe)) then (0 : Int)
  else 9) == 0 then true
  else (↑x.pipe.length : Int) == 0 then decide (x.a ≥ 0)
  else false then decide (x.a < (↑c.units.length : Int))
  else false)) [])
  else k (Out.ret (AVal.bool false) [])
  else
  bif x.kind == 9 then k (Out.ret (AVal.bool (bif decide (x.a ≥ 0) then decide (x.a < (↑c.ops.length : Int))
  else false)) [])
  else
  bif x.kind == 10 then k (Out.ret (AVal.bool (bif
  bif
  bif (bif pipeB (decL decCall (encPipe x.pf x.pipe)) then (0 : Int)
  else 9) == 0 then true
  else (↑x.pipe.length : Int) == 0 then decide (x.a ≥ 0)
  else false then decide (x.a < (↑c.units.length : Int))
  else false)) [])
  else k (Out.ret (AVal.bool false) [])
  else
  bif x.kind == 5 then
  bif x.kind == 5 then k (Out.ret (AVal.bool (bif (bif pipeB (decL decCall (encPipe x.pf x.pipe)) then (0 : Int)
  else 9) == 0 then
  bif decide (x.a ≥ 0) then decide (x.a < (↑c.ops.length : Int))
  else false
  else false)) [])
  else
  bif x.kind == 8 then
  bif x.kind == 8 then k (Out.ret (AVal.bool (bif decide (x.a ≥ 0) then decide (x.a < (↑c.ops.length : Int))
  else false)) [])
  else
  bif x.kind == 10 then k (Out.ret (AVal.bool (bif
  bif
  bif (bif pipeB (decL decCall (encPipe x.pf x.pipe)) then (0 : Int)
  else 9) == 0 then true
  else (↑x.pipe.length : Int) == 0 then decide (x.a ≥ 0)
  else false then decide (x.a < (↑c.units.length : Int))
  else false)) [])
  else k (Out.ret (AVal.bool false) [])
  else
  bif x.kind == 9 then k (Out.ret (AVal.bool (bif decide (x.a ≥ 0) then decide (x.a < (↑c.ops.length : Int))
  else false)) [])
  else
  bif x.kind == 10 then k (Out.ret (AVal.bool (bif
  bif
  bif (bif pipeB (decL decCall (encPipe x.pf x.pipe)) then (0 : Int)
  else 9) == 0 then true
  else (↑x.pipe.length : Int) == 0 then decide (x.a ≥ 0)
  else false then decide (x.a < (↑c.units.length : Int))
  else false)) [])
  else k (Out.ret (AVal.bool false) [])
  else
  bif x.kind == 6 then k (Out.ret (AVal.bool (bif (bif pipeB (decL decCall (encPipe x.pf x.pipe)) then (0 : Int)
  else 9) == 0 then
  bif decide (x.a ≥ 0) then decide (x.a < (↑c.ops.length : Int))
  else false
  else false)) [])
  else
  bif x.kind == 8 then
  bif x.kind == 8 then k (Out.ret (AVal.bool (bif decide (x.a ≥ 0) then decide (x.a < (↑c.ops.length : Int))
  else false)) [])
  else
  bif x.kind == 10 then k (Out.ret (AVal.bool (bif
  bif
  bif (bif pipeB (decL decCall (encPipe x.pf x.pipe)) then (0 : Int)
  else 9) == 0 then true
  else (↑x.pipe.length : Int) == 0 then decide (x.a ≥ 0)
  else false then decide (x.a < (↑c.units.length : Int))
  else false)) [])
  else k (Out.ret (AVal.bool false) [])
  else
  bif x.kind == 9 then k (Out.ret (AVal.bool (bif decide (x.a ≥ 0) then decide (x.a < (↑c.ops.length : Int))
  else false)) [])
  else
  bif x.kind == 10 then k (Out.ret (AVal.bool (bif
  bif
  bif (bif pipeB (decL decCall (encPipe x.pf x.pipe)) then (0 : Int)
  else 9) == 0 then true
  else (↑x.pipe.length : Int) == 0 then decide (x.a ≥ 0)
  else false then decide (x.a < (↑c.units.length : Int))
  else false)) [])
  else k (Out.ret (AVal.bool false) [])
  else
  bif x.kind == 11 then k (Out.ret (AVal.bool true) [])
  else
  bif x.kind == 2 then k (Out.ret (AVal.bool (bif
  bif (bif pipeB (decL decCall (encPipe x.pf x.pipe)) then (0 : Int)
  else 9) == 0 then decide (x.a ≥ 1)
  else false then decide (x.a ≤ 12)
  else false)) [])
  else
  bif x.kind == 3 then k (Out.ret (AVal.bool ((bif pipeB (decL decCall (encPipe x.pf x.pipe)) then (0 : Int)
  else 9) == 0)) [])
  else
  bif x.kind == 4 then
  bif x.kind == 4 then k (Out.ret (AVal.bool (bif (bif pipeB (decL decCall (encPipe x.pf x.pipe)) then (0 : Int)
  else 9) == 0 then
  bif decide (x.a ≥ 0) then decide (x.a < (↑c.ops.length : Int))
  else false
  else false)) [])
  else
  bif x.kind == 8 then
  bif x.kind == 8 then k (Out.ret (AVal.bool (bif decide (x.a ≥ 0) then decide (x.a < (↑c.ops.length : Int))
  else false)) [])
  else
  bif x.kind == 10 then k (Out.ret (AVal.bool (bif
  bif
  bif (bif pipeB (decL decCall (encPipe x.pf x.pipe)) then (0 : Int)
  else 9) == 0 then true
  else (↑x.pipe.length : Int) == 0 then decide (x.a ≥ 0)
  else false then decide (x.a < (↑c.units.length : Int))
  else false)) [])
  else k (Out.ret (AVal.bool false) [])
  else
  bif x.kind == 9 then k (Out.ret (AVal.bool (bif decide (x.a ≥ 0) then decide (x.a < (↑c.ops.length : Int))
  else false)) [])
  else
  bif x.kind == 10 then k (Out.ret (AVal.bool (bif
  bif
  bif (bif pipeB (decL decCall (encPipe x.pf x.pipe)) then (0 : Int)
  else 9) == 0 then true
  else (↑x.pipe.length : Int) == 0 then decide (x.a ≥ 0)
  else false then decide (x.a < (↑c.units.length : Int))
  else false)) [])
  else k (Out.ret (AVal.bool false) [])
  else
  bif x.kind == 5 then
  bif x.kind == 5 then k (Out.ret (AVal.bool (bif (bif pipeB (decL decCall (encPipe x.pf x.pipe)) then (0 : Int)
  else 9) == 0 then
  bif decide (x.a ≥ 0) then decide (x.a < (↑c.ops.length : Int))
  else false
  else false)) [])
  else
  bif x.kind == 8 then
  bif x.kind == 8 then k (Out.ret (AVal.bool (bif decide (x.a ≥ 0) then decide (x.a < (↑c.ops.length : Int))
  else false)) [])
  else
  bif x.kind == 10 then k (Out.ret (AVal.bool (bif
  bif
  bif (bif pipeB (decL decCall (encPipe x.pf x.pipe)) then (0 : Int)
  else 9) == 0 then true
  else (↑x.pipe.length : Int) == 0 then decide (x.a ≥ 0)
  else false then decide (x.a < (↑c.units.length : Int))
  else false)) [])
  else k (Out.ret (AVal.bool false) [])
  else
  bif x.kind == 9 then k (Out.ret (AVal.bool (bif decide (x.a ≥ 0) then decide (x.a < (↑c.ops.length : Int))
  else false)) [])
  else
  bif x.kind == 10 then k (Out.ret (AVal.bool (bif
  bif
  bif (bif pipeB (decL decCall (encPipe x.pf x.pipe)) then (0 : Int)
  else 9) == 0 then true
  else (↑x.pipe.length : Int) == 0 then decide (x.a ≥ 0)
  else false then decide (x.a < (↑c.units.length : Int))
  else false)) [])
  else k (Out.ret (AVal.bool false) [])
  else
  bif x.kind == 6 then k (Out.ret (AVal.bool (bif (bif pipeB (decL decCall (encPipe x.pf x.pipe)) then (0 : Int)
  else 9) == 0 then
  bif decide (x.a ≥ 0) then decide (x.a < (↑c.ops.length : Int))
  else false
  else false)) [])
  else
  bif x.kind == 8 then
  bif x.kind == 8 then k (Out.ret (AVal.bool (bif decide (x.a ≥ 0) then decide (x.a < (↑c.ops.length : Int))
  else false)) [])
  else
  bif x.kind == 10 then k (Out.ret (AVal.bool (bif
  bif
  bif (bif pipeB (decL decCall (encPipe x.pf x.pipe)) then (0 : Int)
  else 9) == 0 then true
  else (↑x.pipe.length : Int) == 0 then decide (x.a ≥ 0)
  else false then decide (x.a < (↑c.units.length : Int))
  else false)) [])
  else k (Out.ret (AVal.bool false) [])
  else
  bif x.kind == 9 then k (Out.ret (AVal.bool (bif decide (x.a ≥ 0) then decide (x.a < (↑c.ops.length : Int))
  else false)) [])
  else
  bif x.kind == 10 then k (Out.ret (AVal.bool (bif
  bif
  bif (bif pipeB (decL decCall (encPipe x.pf x.pipe)) then (0 : Int)
  else 9) == 0 then true
  else (↑x.pipe.length : Int) == 0 then decide (x.a ≥ 0)
  else false then decide (x.a < (↑c.units.length : Int))
  else false)) [])
  else k (Out.ret (AVal.bool false) [])
  else none
theorem pOp_fun (x : OpD) (c : CodeD) (k : Out → Ans) : iFun Try.prog (layU.hd Try.prog) layU.fhs 0 44 [.agg (encOp x), .agg (encCode c)] [] k = pOpTree x c k := by kernel_rfl
theorem pOp_call {x : OpD} (h : okOpD x) (c : CodeD) (k : Out → Ans) : iFun Try.prog (layU.hd Try.prog) layU.fhs 0 44 [.agg (encOp x), .agg (encCode c)] [] k = k (.ret (.bool (opB x c.ops.length c.units.length)) []) := by
  rw [pOp_fun]
  unfold pOpTree opB
  rw [decPipe_enc, tst_true ⟨rfl, h⟩]
  simp only [errB, condF, cond_true]
  generalize (x.kind == 1) = b1
  generalize (x.kind == 7) = b7
  generalize (x.kind == 11) = b11
  generalize (x.kind == 2) = b2
  generalize (x.kind == 3) = b3
  generalize (x.kind == 4) = b4
  generalize (x.kind == 5) = b5
  generalize (x.kind == 6) = b6
  generalize (x.kind == 8) = b8
  generalize (x.kind == 9) = b9
  generalize (x.kind == 10) = b10
  generalize pipeB x.pipe = q
  generalize ((x.pipe.length : Int) == 0) = q2
  generalize decide (x.a ≥ 0) = q3
  generalize decide (x.a < (c.ops.length : Int)) = q4
  generalize decide (x.a < (c.units.length : Int)) = q5
  generalize decide (x.a ≥ 1) = q6
  generalize decide (x.a ≤ 12) = q7
  cases b1 with | true => (cases q <;> cases q2 <;> cases q3 <;> rfl) | false => (cases b7 with | true => (cases q <;> cases q2 <;> cases q3 <;> rfl) | false => (cases b11 with | true => (cases q <;> cases q2 <;> cases q3 <;> rfl) | false => (cases b2 with | true => (cases q <;> cases q2 <;> cases q3 <;> rfl) | false => (cases b3 with | true => (cases q <;> cases q2 <;> cases q3 <;> rfl) | false => (cases b4 with | true => (cases q <;> cases q2 <;> cases q3 <;> rfl) | false => (cases b5 with | true => (cases q <;> cases q2 <;> cases q3 <;> rfl) | false => (cases b6 with | true => (cases q <;> cases q2 <;> cases q3 <;> rfl) | false => (cases b8 with | true => (cases q <;> cases q2 <;> cases q3 <;> rfl) | false => (cases b9 with | true => (cases q <;> cases q2 <;> cases q3 <;> rfl) | false => (cases b10 with | true => (cases q <;> cases q2 <;> cases q3 <;> rfl) | false => (cases q <;> cases q2 <;> cases q3 <;> rfl)))))))))))
noncomputable def rOpTree (x : OpD) (c : CodeD) (k : Out → Ans) : Ans :=
  bif tst (encPipe x.pf x.pipe = encPipe (fullOf (encPipe x.pf x.pipe)) (decL decCall (encPipe x.pf x.pipe)) ∧ okPipe (decL decCall (encPipe x.pf x.pipe))) then
  bif x.kind == 1 then
  bif x.kind == 1 then k (Out.ret (AVal.bool true) [])
  else
  bif x.kind == 2 then k (Out.ret (AVal.bool (bif
  bif pipeB (decL decCall (encPipe x.pf x.pipe)) then decide (x.a ≥ 1)
  else false then decide (x.a ≤ 12)
  else false)) [])
  else
  bif x.kind == 3 then k (Out.ret (AVal.bool (pipeB (decL decCall (encPipe x.pf x.pipe)))) [])
  else
  bif x.kind == 4 then
  bif x.kind == 4 then k (Out.ret (AVal.bool (bif pipeB (decL decCall (encPipe x.pf x.pipe)) then
  bif decide (x.a ≥ 0) then decide (x.a < (↑c.ops.length : Int))
  else false
  else false)) [])
  else
  bif x.kind == 8 then
  bif x.kind == 8 then k (Out.ret (AVal.bool (bif decide (x.a ≥ 0) then decide (x.a < (↑c.ops.length : Int))
  else false)) [])
  else
  bif x.kind == 10 then k (Out.ret (AVal.bool (bif
  bif
  bif pipeB (decL decCall (encPipe x.pf x.pipe)) then true
  else (↑x.pipe.length : Int) == 0 then decide (x.a ≥ 0)
  else false then decide (x.a < (↑c.units.length : Int))
  else false)) [])
  else k (Out.ret (AVal.bool false) [])
  else
  bif x.kind == 9 then k (Out.ret (AVal.bool (bif decide (x.a ≥ 0) then decide (x.a < (↑c.ops.length : Int))
  else false)) [])
  else
  bif x.kind == 10 then k (Out.ret (AVal.bool (bif
  bif
  bif pipeB (decL decCall (encPipe x.pf x.pipe)) then true
  else (↑x.pipe.length : Int) == 0 then decide (x.a ≥ 0)
  else false then decide (x.a < (↑c.units.length : Int))
  else false)) [])
  else k (Out.ret (AVal.bool false) [])
  else
  bif x.kind == 5 then
  bif x.kind == 5 then k (Out.ret (AVal.bool (bif pipeB (decL decCall (encPipe x.pf x.pipe)) then
  bif decide (x.a ≥ 0) then decide (x.a < (↑c.ops.length : Int))
  else false
  else false)) [])
  else
  bif x.kind == 8 then
  bif x.kind == 8 then k (Out.ret (AVal.bool (bif decide (x.a ≥ 0) then decide (x.a < (↑c.ops.length : Int))
  else false)) [])
  else
  bif x.kind == 10 then k (Out.ret (AVal.bool (bif
  bif
  bif pipeB (decL decCall (encPipe x.pf x.pipe)) then true
  else (↑x.pipe.length : Int) == 0 then decide (x.a ≥ 0)
  else false then decide (x.a < (↑c.units.length : Int))
  else false)) [])
  else k (Out.ret (AVal.bool false) [])
  else
  bif x.kind == 9 then k (Out.ret (AVal.bool (bif decide (x.a ≥ 0) then decide (x.a < (↑c.ops.length : Int))
  else false)) [])
  else
  bif x.kind == 10 then k (Out.ret (AVal.bool (bif
  bif
  bif pipeB (decL decCall (encPipe x.pf x.pipe)) then true
  else (↑x.pipe.length : Int) == 0 then decide (x.a ≥ 0)
  else false then decide (x.a < (↑c.units.length : Int))
  else false)) [])
  else k (Out.ret (AVal.bool false) [])
  else
  bif x.kind == 6 then k (Out.ret (AVal.bool (bif pipeB (decL decCall (encPipe x.pf x.pipe)) then
  bif decide (x.a ≥ 0) then decide (x.a < (↑c.ops.length : Int))
  else false
  else false)) [])
  else
  bif x.kind == 8 then
  bif x.kind == 8 then k (Out.ret (AVal.bool (bif decide (x.a ≥ 0) then decide (x.a < (↑c.ops.length : Int))
  else false)) [])
  else
  bif x.kind == 10 then k (Out.ret (AVal.bool (bif
  bif
  bif pipeB (decL decCall (encPipe x.pf x.pipe)) then true
  else (↑x.pipe.length : Int) == 0 then decide (x.a ≥ 0)
  else false then decide (x.a < (↑c.units.length : Int))
  else false)) [])
  else k (Out.ret (AVal.bool false) [])
  else
  bif x.kind == 9 then k (Out.ret (AVal.bool (bif decide (x.a ≥ 0) then decide (x.a < (↑c.ops.length : Int))
  else false)) [])
  else
  bif x.kind == 10 then k (Out.ret (AVal.bool (bif
  bif
  bif pipeB (decL decCall (encPipe x.pf x.pipe)) then true
  else (↑x.pipe.length : Int) == 0 then decide (x.a ≥ 0)
  else false then decide (x.a < (↑c.units.length : Int))
  else false)) [])
  else k (Out.ret (AVal.bool false) [])
  else
  bif x.kind == 7 then
  bif x.kind == 7 then k (Out.ret (AVal.bool true) [])
  else
  bif x.kind == 2 then k (Out.ret (AVal.bool (bif
  bif pipeB (decL decCall (encPipe x.pf x.pipe)) then decide (x.a ≥ 1)
  else false then decide (x.a ≤ 12)
  else false)) [])
  else
  bif x.kind == 3 then k (Out.ret (AVal.bool (pipeB (decL decCall (encPipe x.pf x.pipe)))) [])
  else
  bif x.kind == 4 then
  bif x.kind == 4 then k (Out.ret (AVal.bool (bif pipeB (decL decCall (encPipe x.pf x.pipe)) then
  bif decide (x.a ≥ 0) then decide (x.a < (↑c.ops.length : Int))
  else false
  else false)) [])
  else
  bif x.kind == 8 then
  bif x.kind == 8 then k (Out.ret (AVal.bool (bif decide (x.a ≥ 0) then decide (x.a < (↑c.ops.length : Int))
  else false)) [])
  else
  bif x.kind == 10 then k (Out.ret (AVal.bool (bif
  bif
  bif pipeB (decL decCall (encPipe x.pf x.pipe)) then true
  else (↑x.pipe.length : Int) == 0 then decide (x.a ≥ 0)
  else false then decide (x.a < (↑c.units.length : Int))
  else false)) [])
  else k (Out.ret (AVal.bool false) [])
  else
  bif x.kind == 9 then k (Out.ret (AVal.bool (bif decide (x.a ≥ 0) then decide (x.a < (↑c.ops.length : Int))
  else false)) [])
  else
  bif x.kind == 10 then k (Out.ret (AVal.bool (bif
  bif
  bif pipeB (decL decCall (encPipe x.pf x.pipe)) then true
  else (↑x.pipe.length : Int) == 0 then decide (x.a ≥ 0)
  else false then decide (x.a < (↑c.units.length : Int))
  else false)) [])
  else k (Out.ret (AVal.bool false) [])
  else
  bif x.kind == 5 then
  bif x.kind == 5 then k (Out.ret (AVal.bool (bif pipeB (decL decCall (encPipe x.pf x.pipe)) then
  bif decide (x.a ≥ 0) then decide (x.a < (↑c.ops.length : Int))
  else false
  else false)) [])
  else
  bif x.kind == 8 then
  bif x.kind == 8 then k (Out.ret (AVal.bool (bif decide (x.a ≥ 0) then decide (x.a < (↑c.ops.length : Int))
  else false)) [])
  else
  bif x.kind == 10 then k (Out.ret (AVal.bool (bif
  bif
  bif pipeB (decL decCall (encPipe x.pf x.pipe)) then true
  else (↑x.pipe.length : Int) == 0 then decide (x.a ≥ 0)
  else false then decide (x.a < (↑c.units.length : Int))
  else false)) [])
  else k (Out.ret (AVal.bool false) [])
  else
  bif x.kind == 9 then k (Out.ret (AVal.bool (bif decide (x.a ≥ 0) then decide (x.a < (↑c.ops.length : Int))
  else false)) [])
  else
  bif x.kind == 10 then k (Out.ret (AVal.bool (bif
  bif
  bif pipeB (decL decCall (encPipe x.pf x.pipe)) then true
  else (↑x.pipe.length : Int) == 0 then decide (x.a ≥ 0)
  else false then decide (x.a < (↑c.units.length : Int))
  else false)) [])
  else k (Out.ret (AVal.bool false) [])
  else
  bif x.kind == 6 then k (Out.ret (AVal.bool (bif pipeB (decL decCall (encPipe x.pf x.pipe)) then
  bif decide (x.a ≥ 0) then decide (x.a < (↑c.ops.length : Int))
  else false
  else false)) [])
  else
  bif x.kind == 8 then
  bif x.kind == 8 then k (Out.ret (AVal.bool (bif decide (x.a ≥ 0) then decide (x.a < (↑c.ops.length : Int))
  else false)) [])
  else
  bif x.kind == 10 then k (Out.ret (AVal.bool (bif
  bif
  bif pipeB (decL decCall (encPipe x.pf x.pipe)) then true
  else (↑x.pipe.length : Int) == 0 then decide (x.a ≥ 0)
  else false then decide (x.a < (↑c.units.length : Int))
  else false)) [])
  else k (Out.ret (AVal.bool false) [])
  else
  bif x.kind == 9 then k (Out.ret (AVal.bool (bif decide (x.a ≥ 0) then decide (x.a < (↑c.ops.length : Int))
  else false)) [])
  else
  bif x.kind == 10 then k (Out.ret (AVal.bool (bif
  bif
  bif pipeB (decL decCall (encPipe x.pf x.pipe)) then true
  else (↑x.pipe.length : Int) == 0 then decide (x.a ≥ 0)
  else false then decide (x.a < (↑c.units.length : Int))
  else false)) [])
  else k (Out.ret (AVal.bool false) [])
  else
  bif x.kind == 11 then k (Out.ret (AVal.bool true) [])
  else
  bif x.kind == 2 then k (Out.ret (AVal.bool (bif
  bif pipeB (decL decCall (encPipe x.pf x.pipe)) then decide (x.a ≥ 1)
  else false then decide (x.a ≤ 12)
  else false)) [])
  else
  bif x.kind == 3 then k (Out.ret (AVal.bool (pipeB (decL decCall (encPipe x.pf x.pipe)))) [])
  else
  bif x.kind == 4 then
  bif x.kind == 4 then k (Out.ret (AVal.bool (bif pipeB (decL decCall (encPipe x.pf x.pipe)) then
  bif decide (x.a ≥ 0) then decide (x.a < (↑c.ops.length : Int))
  else false
  else false)) [])
  else
  bif x.kind == 8 then
  bif x.kind == 8 then k (Out.ret (AVal.bool (bif decide (x.a ≥ 0) then decide (x.a < (↑c.ops.length : Int))
  else false)) [])
  else
  bif x.kind == 10 then k (Out.ret (AVal.bool (bif
  bif
  bif pipeB (decL decCall (encPipe x.pf x.pipe)) then true
  else (↑x.pipe.length : Int) == 0 then decide (x.a ≥ 0)
  else false then decide (x.a < (↑c.units.length : Int))
  else false)) [])
  else k (Out.ret (AVal.bool false) [])
  else
  bif x.kind == 9 then k (Out.ret (AVal.bool (bif decide (x.a ≥ 0) then decide (x.a < (↑c.ops.length : Int))
  else false)) [])
  else
  bif x.kind == 10 then k (Out.ret (AVal.bool (bif
  bif
  bif pipeB (decL decCall (encPipe x.pf x.pipe)) then true
  else (↑x.pipe.length : Int) == 0 then decide (x.a ≥ 0)
  else false then decide (x.a < (↑c.units.length : Int))
  else false)) [])
  else k (Out.ret (AVal.bool false) [])
  else
  bif x.kind == 5 then
  bif x.kind == 5 then k (Out.ret (AVal.bool (bif pipeB (decL decCall (encPipe x.pf x.pipe)) then
  bif decide (x.a ≥ 0) then decide (x.a < (↑c.ops.length : Int))
  else false
  else false)) [])
  else
  bif x.kind == 8 then
  bif x.kind == 8 then k (Out.ret (AVal.bool (bif decide (x.a ≥ 0) then decide (x.a < (↑c.ops.length : Int))
  else false)) [])
  else
  bif x.kind == 10 then k (Out.ret (AVal.bool (bif
  bif
  bif pipeB (decL decCall (encPipe x.pf x.pipe)) then true
  else (↑x.pipe.length : Int) == 0 then decide (x.a ≥ 0)
  else false then decide (x.a < (↑c.units.length : Int))
  else false)) [])
  else k (Out.ret (AVal.bool false) [])
  else
  bif x.kind == 9 then k (Out.ret (AVal.bool (bif decide (x.a ≥ 0) then decide (x.a < (↑c.ops.length : Int))
  else false)) [])
  else
  bif x.kind == 10 then k (Out.ret (AVal.bool (bif
  bif
  bif pipeB (decL decCall (encPipe x.pf x.pipe)) then true
  else (↑x.pipe.length : Int) == 0 then decide (x.a ≥ 0)
  else false then decide (x.a < (↑c.units.length : Int))
  else false)) [])
  else k (Out.ret (AVal.bool false) [])
  else
  bif x.kind == 6 then k (Out.ret (AVal.bool (bif pipeB (decL decCall (encPipe x.pf x.pipe)) then
  bif decide (x.a ≥ 0) then decide (x.a < (↑c.ops.length : Int))
  else false
  else false)) [])
  else
  bif x.kind == 8 then
  bif x.kind == 8 then k (Out.ret (AVal.bool (bif decide (x.a ≥ 0) then decide (x.a < (↑c.ops.length : Int))
  else false)) [])
  else
  bif x.kind == 10 then k (Out.ret (AVal.bool (bif
  bif
  bif pipeB (decL decCall (encPipe x.pf x.pipe)) then true
  else (↑x.pipe.length : Int) == 0 then decide (x.a ≥ 0)
  else false then decide (x.a < (↑c.units.length : Int))
  else false)) [])
  else k (Out.ret (AVal.bool false) [])
  else
  bif x.kind == 9 then k (Out.ret (AVal.bool (bif decide (x.a ≥ 0) then decide (x.a < (↑c.ops.length : Int))
  else false)) [])
  else
  bif x.kind == 10 then k (Out.ret (AVal.bool (bif
  bif
  bif pipeB (decL decCall (encPipe x.pf x.pipe)) then true
  else (↑x.pipe.length : Int) == 0 then decide (x.a ≥ 0)
  else false then decide (x.a < (↑c.units.length : Int))
  else false)) [])
  else k (Out.ret (AVal.bool false) [])
  else none
theorem rOp_fun (x : OpD) (c : CodeD) (k : Out → Ans) : iFun Try.prog (layU.hd Try.prog) layU.fhs 0 21 [.agg (encOp x), .agg (encCode c)] [] k = rOpTree x c k := by kernel_rfl
theorem rOp_call {x : OpD} (h : okOpD x) (c : CodeD) (k : Out → Ans) : iFun Try.prog (layU.hd Try.prog) layU.fhs 0 21 [.agg (encOp x), .agg (encCode c)] [] k = k (.ret (.bool (opB x c.ops.length c.units.length)) []) := by
  rw [rOp_fun]
  unfold rOpTree opB
  rw [decPipe_enc, tst_true ⟨rfl, h⟩]
  simp only [errB, condF, cond_true]
  generalize (x.kind == 1) = b1
  generalize (x.kind == 7) = b7
  generalize (x.kind == 11) = b11
  generalize (x.kind == 2) = b2
  generalize (x.kind == 3) = b3
  generalize (x.kind == 4) = b4
  generalize (x.kind == 5) = b5
  generalize (x.kind == 6) = b6
  generalize (x.kind == 8) = b8
  generalize (x.kind == 9) = b9
  generalize (x.kind == 10) = b10
  generalize pipeB x.pipe = q
  generalize ((x.pipe.length : Int) == 0) = q2
  generalize decide (x.a ≥ 0) = q3
  generalize decide (x.a < (c.ops.length : Int)) = q4
  generalize decide (x.a < (c.units.length : Int)) = q5
  generalize decide (x.a ≥ 1) = q6
  generalize decide (x.a ≤ 12) = q7
  cases b1 with | true => (cases q <;> cases q2 <;> cases q3 <;> rfl) | false => (cases b7 with | true => (cases q <;> cases q2 <;> cases q3 <;> rfl) | false => (cases b11 with | true => (cases q <;> cases q2 <;> cases q3 <;> rfl) | false => (cases b2 with | true => (cases q <;> cases q2 <;> cases q3 <;> rfl) | false => (cases b3 with | true => (cases q <;> cases q2 <;> cases q3 <;> rfl) | false => (cases b4 with | true => (cases q <;> cases q2 <;> cases q3 <;> rfl) | false => (cases b5 with | true => (cases q <;> cases q2 <;> cases q3 <;> rfl) | false => (cases b6 with | true => (cases q <;> cases q2 <;> cases q3 <;> rfl) | false => (cases b8 with | true => (cases q <;> cases q2 <;> cases q3 <;> rfl) | false => (cases b9 with | true => (cases q <;> cases q2 <;> cases q3 <;> rfl) | false => (cases b10 with | true => (cases q <;> cases q2 <;> cases q3 <;> rfl) | false => (cases q <;> cases q2 <;> cases q3 <;> rfl)))))))))))
end Go.Mu
