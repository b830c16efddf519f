/-
  Nodes with their pipelines; what the writer makes of them.
-/
import Derived.Test.YtlbmedmddoljnaaWPut
set_option linter.unusedVariables false
set_option linter.unusedSimpArgs false
set_option maxRecDepth 100000
namespace Go.Mu
open Go Go.Proofs
structure NdE where
  kind : Int
  text : List UInt8
  name : List UInt8
  pf : Bool
  pipe : List CallD
  bf : Bool
  bn : Nat
  br : Nat → List AVal
  ef : Bool
  en : Nat
  er : Nat → List AVal
  at_ : Int
  esc : Int
  unit : Int
def ne0 : NdE := ⟨0, [], [], true, [], true, 0, fun _ => [], true, 0, fun _ => [], 0, 0, 0⟩
def NdE.body (n : NdE) : AVal := .list n.bf n.bn n.br
def NdE.els (n : NdE) : AVal := .list n.ef n.en n.er
def encNe (n : NdE) : List AVal := [.int .i64 n.kind, .str n.text, .str n.name, encPipe n.pf n.pipe, .list n.bf n.bn n.br, .list n.ef n.en n.er, .int .i64 n.at_, .int .i64 n.esc, .int .i64 n.unit]
def decNe (r : List AVal) : NdE :=
  ⟨intOf (r.getD 0 .undef), strOf (r.getD 1 .undef), strOf (r.getD 2 .undef), fullOf (r.getD 3 .undef), decL decCall (r.getD 3 .undef), plF (r.getD 4 .undef), plN (r.getD 4 .undef), plR (r.getD 4 .undef), plF (r.getD 5 .undef), plN (r.getD 5 .undef), plR (r.getD 5 .undef), intOf (r.getD 6 .undef), intOf (r.getD 7 .undef), intOf (r.getD 8 .undef)⟩
theorem decNe_enc (n : NdE) : decNe (encNe n) = n := by
  cases n
  simp only [decNe, encNe, List.getD_cons_zero, List.getD_cons_succ, intOf, strOf, fullOf, plF, plN, plR]
  rw [decPipe_enc]
noncomputable def wfNe (r : List AVal) : Bool := tst (SubL r (encNe (decNe r)) ∧ okCs (decNe r).pipe)
theorem wfNe_sub (r : List AVal) (h : wfNe r = true) : SubL r (encNe (decNe r)) := (of_tst h).1
theorem wfNe_enc {n : NdE} (h : okCs n.pipe) : wfNe (encNe n) = true := tst_true ⟨by rw [decNe_enc]; exact .refl _, by rw [decNe_enc]; exact h⟩
abbrev encNes (full : Bool) (l : List NdE) : AVal := encL full encNe ne0 l
abbrev nodesE (x : AVal) : List NdE := decL decNe x
theorem nodesE_enc (full : Bool) (l : List NdE) : nodesE (encNes full l) = l := decL_encL decNe_enc l
def wfW : Nat → AVal → Prop
  | 0, _ => False
  | d + 1, x => wfL wfNe x = true ∧ lenL x ≤ 1073741824 ∧ ∀ n ∈ nodesE x, okCs n.pipe ∧ wfW d n.body ∧ wfW d n.els
def cntW : Nat → AVal → Nat
  | 0, _ => 0
  | d + 1, x => ((nodesE x).map (fun n => 5 + cntW d n.body + cntW d n.els)).sum
/-- a step's place, set -/
def setA (ops : List OpD) (i : Nat) (a : Int) : List OpD := ops.set i ⟨(ops.getD i opD0).kind, a, (ops.getD i opD0).text, (ops.getD i opD0).pf, (ops.getD i opD0).pipe, (ops.getD i opD0).at_⟩
def putM (ops : List OpD) (x : OpD) : List OpD := ops ++ [cpOp x]
/-- if, with, range -/
def blockM (w1 w2 : List OpD → List OpD) (kind : Int) (n : NdE) (ops : List OpD) : List OpD :=
  let ops2 := w1 (putM ops ⟨kind, 0, [], n.pf, n.pipe, n.at_⟩)
  let ops3 := cond (kind == 6) (putM ops2 ⟨9, (ops.length : Int) + 1, [], true, [], n.at_⟩) ops2
  let ops4 := putM ops3 ⟨7, 0, [], true, [], n.at_⟩
  let ops5 := putM ops4 ⟨8, 0, [], true, [], n.at_⟩
  let ops6 := setA ops5 ops.length ops5.length
  let ops8 := putM (w2 ops6) ⟨7, 0, [], true, [], n.at_⟩
  setA ops8 ops4.length ops8.length
def nodeM (w1 w2 : List OpD → List OpD) (n : NdE) (ops : List OpD) : List OpD :=
  cond (n.kind == 1) (putM ops ⟨1, 0, n.text, true, [], n.at_⟩) (cond (n.kind == 2) (putM ops ⟨2, n.esc, [], n.pf, n.pipe, n.at_⟩)
    (cond (n.kind == 3) (blockM w1 w2 4 n ops) (cond (n.kind == 4) (blockM w1 w2 6 n ops) (cond (n.kind == 5) (blockM w1 w2 5 n ops)
      (cond (n.kind == 6) (putM ops ⟨10, n.unit, [], n.pf, n.pipe, n.at_⟩) (cond (n.kind == 7) (putM ops ⟨3, 0, n.name, n.pf, n.pipe, n.at_⟩) ops))))))
def writeM : Nat → AVal → List OpD → List OpD
  | 0, _, ops => ops
  | d + 1, x, ops => (nodesE x).foldl (fun ops n => nodeM (writeM d n.body) (writeM d n.els) n ops) ops
/-- the writer's nodes, where steps are there already -/
noncomputable def nodesToldN (d : Nat) : FSp := fun xs H k => match xs with
  | [.ptr (.hp 0) 0, x] => cond (tst (wfW d x ∧ ofHw H ≠ [] ∧ H = HwN (uOf H) (ofHw H) ∧ (ofHw H).length + cntW d x ≤ 1099511627776)) (k (.ret (.tuple []) (HwN (uOf H) (writeM d x (ofHw H))))) none
  | _ => none
noncomputable def layBl (d : Nat) : Lay := (Lay.nil.addF 39 putTold).addF 38 (nodesToldN d)
def eZ (kind a : Int) (t : List UInt8) (at_ : Int) : List AVal := [.int .i64 kind, .int .i64 a, .str t, nilList, .int .i64 at_]
noncomputable abbrev tP (x : List AVal) (H : Heap) : Bool := tst (SubL x (encOp (decOp x)) ∧ okCs (decOp x).pipe ∧ H = Hw (uOf H) (ofHw H) ∧ (ofHw H).length ≤ 1099511627776)
abbrev oP (x : List AVal) (H : Heap) : List OpD := ofHw H ++ [cpOp (decOp x)]
abbrev hP (x : List AVal) (H : Heap) : Heap := HwN (uOf H) (oP x H)
noncomputable abbrev tN (d : Nat) (x : AVal) (H : Heap) : Bool := tst (wfW d x ∧ ofHw H ≠ [] ∧ H = HwN (uOf H) (ofHw H) ∧ (ofHw H).length + cntW d x ≤ 1099511627776)
abbrev hN (d : Nat) (x : AVal) (H : Heap) : Heap := HwN (uOf H) (writeM d x (ofHw H))
abbrev hS (h : Nat) (ops : List OpD) (U : Obj) : Heap := [.var [.own 2 0 ops.length (ops.length - 1) false], U, .arr 5 ((rowsE encOp ops).set (0 + (h : Int).toNat) (((rowsE encOp ops).getD (0 + (h : Int).toNat) []).set 1 (.int .i64 ops.length))) (ops.length - 1)]
abbrev cS (h : Nat) (ops : List OpD) (X : Ans) : Ans := cond (ops.length - 1 == ops.length - 1 && true && decide ((h : Int) < (ops.length : Int))) (cond (ops.length - 1 == ops.length - 1) (cond (ops.length - 1 == ops.length - 1 && decide (0 + (h : Int).toNat < (rowsE encOp ops).length) && true) X none) none) none
noncomputable abbrev bCont (d : Nat) (n : NdE) (h : Nat) (H3 : Heap) (k : Out → Ans) : Ans :=
  cond (tP (eZ 7 0 [] n.at_) H3) (cond (tP (eZ 8 0 [] n.at_) (hP (eZ 7 0 [] n.at_) H3))
    (cS h (oP (eZ 8 0 [] n.at_) (hP (eZ 7 0 [] n.at_) H3))
      (cond (tN d n.els (hS h (oP (eZ 8 0 [] n.at_) (hP (eZ 7 0 [] n.at_) H3)) (uOf (hP (eZ 7 0 [] n.at_) H3))))
        (cond (tP (eZ 7 0 [] n.at_) (hN d n.els (hS h (oP (eZ 8 0 [] n.at_) (hP (eZ 7 0 [] n.at_) H3)) (uOf (hP (eZ 7 0 [] n.at_) H3)))))
          (cS (ofHw (hP (eZ 7 0 [] n.at_) H3)).length (oP (eZ 7 0 [] n.at_) (hN d n.els (hS h (oP (eZ 8 0 [] n.at_) (hP (eZ 7 0 [] n.at_) H3)) (uOf (hP (eZ 7 0 [] n.at_) H3)))))
            (k (.ret (.tuple []) (hS (ofHw (hP (eZ 7 0 [] n.at_) H3)).length (oP (eZ 7 0 [] n.at_) (hN d n.els (hS h (oP (eZ 8 0 [] n.at_) (hP (eZ 7 0 [] n.at_) H3)) (uOf (hP (eZ 7 0 [] n.at_) H3)))))
              (uOf (hN d n.els (hS h (oP (eZ 8 0 [] n.at_) (hP (eZ 7 0 [] n.at_) H3)) (uOf (hP (eZ 7 0 [] n.at_) H3)))))))))
          none) none)) none) none
abbrev e1B (q : Int) (n : NdE) : List AVal := encOp ⟨q, 0, [], n.pf, n.pipe, n.at_⟩
theorem block_fun (d : Nat) (n : NdE) (q : Int) (H : Heap) (k : Out → Ans) : iFun Try.prog ((layBl d).hd Try.prog) (layBl d).fhs 0 73 [.ptr (.hp 0) 0, .int .i64 q, .agg (encNe n)] H k =
    cond (tP (e1B q n) H) (cond (tN d n.body (hP (e1B q n) H))
      (cond (q == 6) (cond (tP (eZ 9 (IntKind.i64.wrap (((ofHw H).length : Int) + 1)) [] n.at_) (hN d n.body (hP (e1B q n) H))) (bCont d n (ofHw H).length (hP (eZ 9 (IntKind.i64.wrap (((ofHw H).length : Int) + 1)) [] n.at_) (hN d n.body (hP (e1B q n) H))) k) none)
        (bCont d n (ofHw H).length (hN d n.body (hP (e1B q n) H)) k)) none) none := by kernel_rfl
end Go.Mu
