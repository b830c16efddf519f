/-
  Nodes as records; the names that nodes call.
-/
import Derived.Test.YtlbmedmddoljnaaMuShrink
import Derived.Test.YtlbmedmddoljnaaChkAlive
import Derived.Test.YtlbmedmddoljnaaProg
import Derived.KernelRfl
set_option linter.unusedVariables false
set_option linter.unusedSimpArgs false
set_option maxRecDepth 100000
namespace Go.Mu
open Go Go.Proofs
abbrev Nm := List UInt8
/-- a node's cells; its lists stay as they are read -/
structure NdD where
  kind : Int
  text : Nm
  name : Nm
  pf : Bool
  pn : Nat
  pr : Nat → List AVal
  bf : Bool
  bn : Nat
  br : Nat → List AVal
  ef : Bool
  en : Nat
  er : Nat → List AVal
  at_ : Int
  esc : Int
  unit : Int
def nd0 : NdD := ⟨0, [], [], true, 0, fun _ => [], true, 0, fun _ => [], true, 0, fun _ => [], 0, 0, 0⟩
def NdD.body (n : NdD) : AVal := .list n.bf n.bn n.br
def NdD.els (n : NdD) : AVal := .list n.ef n.en n.er
def rowOf : AVal → Nat → List AVal
  | .list _ _ r => r
  | _ => fun _ => []
def encNd (n : NdD) : List AVal := [.int .i64 n.kind, .str n.text, .str n.name, .list n.pf n.pn n.pr, .list n.bf n.bn n.br, .list n.ef n.en n.er, .int .i64 n.at_, .int .i64 n.esc, .int .i64 n.unit]
def cAt (r : List AVal) (j : Nat) : AVal := r.getD j .undef
def decNd (r : List AVal) : NdD :=
  ⟨intOf (cAt r 0), strOf (cAt r 1), strOf (cAt r 2), fullOf (cAt r 3), lenL (cAt r 3), rowOf (cAt r 3), fullOf (cAt r 4), lenL (cAt r 4), rowOf (cAt r 4), fullOf (cAt r 5), lenL (cAt r 5), rowOf (cAt r 5), intOf (cAt r 6), intOf (cAt r 7), intOf (cAt r 8)⟩
theorem decNd_enc (n : NdD) : decNd (encNd n) = n := rfl
noncomputable def wfNd (r : List AVal) : Bool := tst (r = encNd (decNd r))
theorem wfNd_sub (r : List AVal) (h : wfNd r = true) : SubL r (encNd (decNd r)) := by rw [← of_tst h]; exact .refl _
theorem wfNd_enc (n : NdD) : wfNd (encNd n) = true := tst_true rfl
abbrev encNds (full : Bool) (l : List NdD) : AVal := encL full encNd nd0 l
abbrev nodes (x : AVal) : List NdD := decL decNd x
theorem nodes_enc (full : Bool) (l : List NdD) : nodes (encNds full l) = l := decL_encL decNd_enc l
/-- lists of nodes, by depth -/
def wfV : Nat → AVal → Prop
  | 0, _ => False
  | d + 1, x => wfL wfNd x = true ∧ lenL x ≤ 1099511627776 ∧ ∀ n ∈ nodes x, wfV d n.body ∧ wfV d n.els
def cntV : Nat → AVal → Nat
  | 0, _ => 0
  | d + 1, x => ((nodes x).map (fun n => 1 + cntV d n.body + cntV d n.els)).sum
/-- the names that nodes call -/
def addN (n : NdD) (o : List Nm) : List Nm := cond (n.kind == 6) (cond (o.contains n.name) o (o ++ [n.name])) o
def callsV : Nat → AVal → List Nm → List Nm
  | 0, _, o => o
  | d + 1, x, o => (nodes x).foldl (fun o n => callsV d n.els (callsV d n.body (addN n o))) o
theorem addN_len (n : NdD) (o : List Nm) : (addN n o).length ≤ o.length + 1 := by
  unfold addN
  cases n.kind == 6 <;> cases o.contains n.name <;> simp
theorem callsV_len : ∀ (d : Nat) (x : AVal) (o : List Nm), (callsV d x o).length ≤ o.length + cntV d x
  | 0, x, o => by simp [callsV, cntV]
  | d + 1, x, o => by
    unfold callsV cntV
    generalize nodes x = l
    induction l generalizing o with
    | nil => simp
    | cons n l ih =>
      simp only [List.foldl_cons, List.map_cons, List.sum_cons]
      have h1 := addN_len n o
      have h2 := callsV_len d n.body (addN n o)
      have h3 := callsV_len d n.els (callsV d n.body (addN n o))
      have h4 := ih (callsV d n.els (callsV d n.body (addN n o)))
      omega
/- the names that are told: a slice in the heap, behind a variable -/
def rowsS (o : List Nm) : List (List AVal) := o.map encS
def Hout (o : List Nm) : Heap := match o with
  | [] => [.var [nilList]]
  | o => [.var [.own 1 0 o.length (o.length - 1) false], .arr 1 (rowsS o) (o.length - 1)]
def ofHout : Heap → List Nm
  | [_, .arr _ rows _] => rows.map decS
  | _ => []
theorem decS_rows (o : List Nm) : (rowsS o).map decS = o := by
  unfold rowsS
  rw [List.map_map]
  conv => rhs; rw [← List.map_id o]
  rfl
theorem ofHout_mk (o : List Nm) : ofHout (Hout o) = o := by
  unfold Hout
  split
  · rfl
  · exact decS_rows _
end Go.Mu
