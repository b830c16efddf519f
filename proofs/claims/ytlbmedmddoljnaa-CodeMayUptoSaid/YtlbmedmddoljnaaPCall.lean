/-
  What pipes.Arity and muslinref19.Arity tell; calls and pipelines.
-/
import Derived.Test.YtlbmedmddoljnaaPArg
set_option linter.unusedVariables false
set_option linter.unusedSimpArgs false
set_option maxRecDepth 100000
namespace Go.Mu
open Go Go.Proofs

def ar (s : List UInt8) : Int × Int × Bool := bif (s == [108, 101, 110]) || (s == [110, 111, 116]) || (s == [117, 112, 112, 101, 114]) || (s == [108, 111, 119, 101, 114]) then (1, 1, true) else bif (s == [101, 113]) || (s == [108, 116]) || (s == [97, 110, 100]) || (s == [111, 114]) || (s == [106, 111, 105, 110]) || (s == [100, 101, 102, 97, 117, 108, 116]) || (s == [105, 110, 100, 101, 120]) then (2, 2, true) else bif s == [112, 114, 105, 110, 116] then (1, 8, true) else (0, 0, false)
def arTree (s : List UInt8) (k : Out → Ans) : Ans :=
  bif s == [108, 101, 110] then
  bif s == [108, 101, 110] then k (Out.ret (AVal.tuple [AVal.int IntKind.i64 1, AVal.int IntKind.i64 1, AVal.bool true]) [])
  else
  bif s == [101, 113] then
  bif s == [101, 113] then k (Out.ret (AVal.tuple [AVal.int IntKind.i64 2, AVal.int IntKind.i64 2, AVal.bool true]) [])
  else
  bif s == [112, 114, 105, 110, 116] then k (Out.ret (AVal.tuple [AVal.int IntKind.i64 1, AVal.int IntKind.i64 8, AVal.bool true]) [])
  else k (Out.ret (AVal.tuple [AVal.int IntKind.i64 0, AVal.int IntKind.i64 0, AVal.bool false]) [])
  else
  bif s == [108, 116] then
  bif s == [108, 116] then k (Out.ret (AVal.tuple [AVal.int IntKind.i64 2, AVal.int IntKind.i64 2, AVal.bool true]) [])
  else
  bif s == [112, 114, 105, 110, 116] then k (Out.ret (AVal.tuple [AVal.int IntKind.i64 1, AVal.int IntKind.i64 8, AVal.bool true]) [])
  else k (Out.ret (AVal.tuple [AVal.int IntKind.i64 0, AVal.int IntKind.i64 0, AVal.bool false]) [])
  else
  bif s == [97, 110, 100] then
  bif s == [97, 110, 100] then k (Out.ret (AVal.tuple [AVal.int IntKind.i64 2, AVal.int IntKind.i64 2, AVal.bool true]) [])
  else
  bif s == [112, 114, 105, 110, 116] then k (Out.ret (AVal.tuple [AVal.int IntKind.i64 1, AVal.int IntKind.i64 8, AVal.bool true]) [])
  else k (Out.ret (AVal.tuple [AVal.int IntKind.i64 0, AVal.int IntKind.i64 0, AVal.bool false]) [])
  else
  bif s == [111, 114] then
  bif s == [111, 114] then k (Out.ret (AVal.tuple [AVal.int IntKind.i64 2, AVal.int IntKind.i64 2, AVal.bool true]) [])
  else
  bif s == [112, 114, 105, 110, 116] then k (Out.ret (AVal.tuple [AVal.int IntKind.i64 1, AVal.int IntKind.i64 8, AVal.bool true]) [])
  else k (Out.ret (AVal.tuple [AVal.int IntKind.i64 0, AVal.int IntKind.i64 0, AVal.bool false]) [])
  else
  bif s == [106, 111, 105, 110] then
  bif s == [106, 111, 105, 110] then k (Out.ret (AVal.tuple [AVal.int IntKind.i64 2, AVal.int IntKind.i64 2, AVal.bool true]) [])
  else
  bif s == [112, 114, 105, 110, 116] then k (Out.ret (AVal.tuple [AVal.int IntKind.i64 1, AVal.int IntKind.i64 8, AVal.bool true]) [])
  else k (Out.ret (AVal.tuple [AVal.int IntKind.i64 0, AVal.int IntKind.i64 0, AVal.bool false]) [])
  else
  bif s == [100, 101, 102, 97, 117, 108, 116] then
  bif s == [100, 101, 102, 97, 117, 108, 116] then k (Out.ret (AVal.tuple [AVal.int IntKind.i64 2, AVal.int IntKind.i64 2, AVal.bool true]) [])
  else
  bif s == [112, 114, 105, 110, 116] then k (Out.ret (AVal.tuple [AVal.int IntKind.i64 1, AVal.int IntKind.i64 8, AVal.bool true]) [])
  else k (Out.ret (AVal.tuple [AVal.int IntKind.i64 0, AVal.int IntKind.i64 0, AVal.bool false]) [])
  else
  bif s == [105, 110, 100, 101, 120] then k (Out.ret (AVal.tuple [AVal.int IntKind.i64 2, AVal.int IntKind.i64 2, AVal.bool true]) [])
  else
  bif s == [112, 114, 105, 110, 116] then k (Out.ret (AVal.tuple [AVal.int IntKind.i64 1, AVal.int IntKind.i64 8, AVal.bool true]) [])
  else k (Out.ret (AVal.tuple [AVal.int IntKind.i64 0, AVal.int IntKind.i64 0, AVal.bool false]) [])
  else
  bif s == [110, 111, 116] then
  bif s == [110, 111, 116] then k (Out.ret (AVal.tuple [AVal.int IntKind.i64 1, AVal.int IntKind.i64 1, AVal.bool true]) [])
  else
  bif s == [101, 113] then
  bif s == [101, 113] then k (Out.ret (AVal.tuple [AVal.int IntKind.i64 2, AVal.int IntKind.i64 2, AVal.bool true]) [])
  else
  bif s == [112, 114, 105, 110, 116] then k (Out.ret (AVal.tuple [AVal.int IntKind.i64 1, AVal.int IntKind.i64 8, AVal.bool true]) [])
  else k (Out.ret (AVal.tuple [AVal.int IntKind.i64 0, AVal.int IntKind.i64 0, AVal.bool false]) [])
  else
  bif s == [108, 116] then
  bif s == [108, 116] then k (Out.ret (AVal.tuple [AVal.int IntKind.i64 2, AVal.int IntKind.i64 2, AVal.bool true]) [])
  else
  bif s == [112, 114, 105, 110, 116] then k (Out.ret (AVal.tuple [AVal.int IntKind.i64 1, AVal.int IntKind.i64 8, AVal.bool true]) [])
  else k (Out.ret (AVal.tuple [AVal.int IntKind.i64 0, AVal.int IntKind.i64 0, AVal.bool false]) [])
  else
  bif s == [97, 110, 100] then
  bif s == [97, 110, 100] then k (Out.ret (AVal.tuple [AVal.int IntKind.i64 2, AVal.int IntKind.i64 2, AVal.bool true]) [])
  else
  bif s == [112, 114, 105, 110, 116] then k (Out.ret (AVal.tuple [AVal.int IntKind.i64 1, AVal.int IntKind.i64 8, AVal.bool true]) [])
  else k (Out.ret (AVal.tuple [AVal.int IntKind.i64 0, AVal.int IntKind.i64 0, AVal.bool false]) [])
  else
  bif s == [111, 114] then
  bif s == [111, 114] then k (Out.ret (AVal.tuple [AVal.int IntKind.i64 2, AVal.int IntKind.i64 2, AVal.bool true]) [])
  else
  bif s == [112, 114, 105, 110, 116] then k (Out.ret (AVal.tuple [AVal.int IntKind.i64 1, AVal.int IntKind.i64 8, AVal.bool true]) [])
  else k (Out.ret (AVal.tuple [AVal.int IntKind.i64 0, AVal.int IntKind.i64 0, AVal.bool false]) [])
  else
  bif s == [106, 111, 105, 110] then
  bif s == [106, 111, 105, 110] then k (Out.ret (AVal.tuple [AVal.int IntKind.i64 2, AVal.int IntKind.i64 2, AVal.bool true]) [])
  else
  bif s == [112, 114, 105, 110, 116] then k (Out.ret (AVal.tuple [AVal.int IntKind.i64 1, AVal.int IntKind.i64 8, AVal.bool true]) [])
  else k (Out.ret (AVal.tuple [AVal.int IntKind.i64 0, AVal.int IntKind.i64 0, AVal.bool false]) [])
  else
  bif s == [100, 101, 102, 97, 117, 108, 116] then
  bif s == [100, 101, 102, 97, 117, 108, 116] then k (Out.ret (AVal.tuple [AVal.int IntKind.i64 2, AVal.int IntKind.i64 2, AVal.bool true]) [])
  else
  bif s == [112, 114, 105, 110, 116] then k (Out.ret (AVal.tuple [AVal.int IntKind.i64 1, AVal.int IntKind.i64 8, AVal.bool true]) [])
  else k (Out.ret (AVal.tuple [AVal.int IntKind.i64 0, AVal.int IntKind.i64 0, AVal.bool false]) [])
  else
  bif s == [105, 110, 100, 101, 120] then k (Out.ret (AVal.tuple [AVal.int IntKind.i64 2, AVal.int IntKind.i64 2, AVal.bool true]) [])
  else
  bif s == [112, 114, 105, 110, 116] then k (Out.ret (AVal.tuple [AVal.int IntKind.i64 1, AVal.int IntKind.i64 8, AVal.bool true]) [])
  else k (Out.ret (AVal.tuple [AVal.int IntKind.i64 0, AVal.int IntKind.i64 0, AVal.bool false]) [])
  else
  bif s == [117, 112, 112, 101, 114] then
  bif s == [117, 112, 112, 101, 114] then k (Out.ret (AVal.tuple [AVal.int IntKind.i64 1, AVal.int IntKind.i64 1, AVal.bool true]) [])
  else
  bif s == [101, 113] then
  bif s == [101, 113] then k (Out.ret (AVal.tuple [AVal.int IntKind.i64 2, AVal.int IntKind.i64 2, AVal.bool true]) [])
  else
  bif s == [112, 114, 105, 110, 116] then k (Out.ret (AVal.tuple [AVal.int IntKind.i64 1, AVal.int IntKind.i64 8, AVal.bool true]) [])
  else k (Out.ret (AVal.tuple [AVal.int IntKind.i64 0, AVal.int IntKind.i64 0, AVal.bool false]) [])
  else
  bif s == [108, 116] then
  bif s == [108, 116] then k (Out.ret (AVal.tuple [AVal.int IntKind.i64 2, AVal.int IntKind.i64 2, AVal.bool true]) [])
  else
  bif s == [112, 114, 105, 110, 116] then k (Out.ret (AVal.tuple [AVal.int IntKind.i64 1, AVal.int IntKind.i64 8, AVal.bool true]) [])
  else k (Out.ret (AVal.tuple [AVal.int IntKind.i64 0, AVal.int IntKind.i64 0, AVal.bool false]) [])
  else
  bif s == [97, 110, 100] then
  bif s == [97, 110, 100] then k (Out.ret (AVal.tuple [AVal.int IntKind.i64 2, AVal.int IntKind.i64 2, AVal.bool true]) [])
  else
  bif s == [112, 114, 105, 110, 116] then k (Out.ret (AVal.tuple [AVal.int IntKind.i64 1, AVal.int IntKind.i64 8, AVal.bool true]) [])
  else k (Out.ret (AVal.tuple [AVal.int IntKind.i64 0, AVal.int IntKind.i64 0, AVal.bool false]) [])
  else
  bif s == [111, 114] then
  bif s == [111, 114] then k (Out.ret (AVal.tuple [AVal.int IntKind.i64 2, AVal.int IntKind.i64 2, AVal.bool true]) [])
  else
  bif s == [112, 114, 105, 110, 116] then k (Out.ret (AVal.tuple [AVal.int IntKind.i64 1, AVal.int IntKind.i64 8, AVal.bool true]) [])
  else k (Out.ret (AVal.tuple [AVal.int IntKind.i64 0, AVal.int IntKind.i64 0, AVal.bool false]) [])
  else
  bif s == [106, 111, 105, 110] then
  bif s == [106, 111, 105, 110] then k (Out.ret (AVal.tuple [AVal.int IntKind.i64 2, AVal.int IntKind.i64 2, AVal.bool true]) [])
  else
  bif s == [112, 114, 105, 110, 116] then k (Out.ret (AVal.tuple [AVal.int IntKind.i64 1, AVal.int IntKind.i64 8, AVal.bool true]) [])
  else k (Out.ret (AVal.tuple [AVal.int IntKind.i64 0, AVal.int IntKind.i64 0, AVal.bool false]) [])
  else
  bif s == [100, 101, 102, 97, 117, 108, 116] then
  bif s == [100, 101, 102, 97, 117, 108, 116] then k (Out.ret (AVal.tuple [AVal.int IntKind.i64 2, AVal.int IntKind.i64 2, AVal.bool true]) [])
  else
  bif s == [112, 114, 105, 110, 116] then k (Out.ret (AVal.tuple [AVal.int IntKind.i64 1, AVal.int IntKind.i64 8, AVal.bool true]) [])
  else k (Out.ret (AVal.tuple [AVal.int IntKind.i64 0, AVal.int IntKind.i64 0, AVal.bool false]) [])
  else
  bif s == [105, 110, 100, 101, 120] then k (Out.ret (AVal.tuple [AVal.int IntKind.i64 2, AVal.int IntKind.i64 2, AVal.bool true]) [])
  else
  bif s == [112, 114, 105, 110, 116] then k (Out.ret (AVal.tuple [AVal.int IntKind.i64 1, AVal.int IntKind.i64 8, AVal.bool true]) [])
  else k (Out.ret (AVal.tuple [AVal.int IntKind.i64 0, AVal.int IntKind.i64 0, AVal.bool false]) [])
  else
  bif s == [108, 111, 119, 101, 114] then k (Out.ret (AVal.tuple [AVal.int IntKind.i64 1, AVal.int IntKind.i64 1, AVal.bool true]) [])
  else
  bif s == [101, 113] then
  bif s == [101, 113] then k (Out.ret (AVal.tuple [AVal.int IntKind.i64 2, AVal.int IntKind.i64 2, AVal.bool true]) [])
  else
  bif s == [112, 114, 105, 110, 116] then k (Out.ret (AVal.tuple [AVal.int IntKind.i64 1, AVal.int IntKind.i64 8, AVal.bool true]) [])
  else k (Out.ret (AVal.tuple [AVal.int IntKind.i64 0, AVal.int IntKind.i64 0, AVal.bool false]) [])
  else
  bif s == [108, 116] then
  bif s == [108, 116] then k (Out.ret (AVal.tuple [AVal.int IntKind.i64 2, AVal.int IntKind.i64 2, AVal.bool true]) [])
  else
  bif s == [112, 114, 105, 110, 116] then k (Out.ret (AVal.tuple [AVal.int IntKind.i64 1, AVal.int IntKind.i64 8, AVal.bool true]) [])
  else k (Out.ret (AVal.tuple [AVal.int IntKind.i64 0, AVal.int IntKind.i64 0, AVal.bool false]) [])
  else
  bif s == [97, 110, 100] then
  bif s == [97, 110, 100] then k (Out.ret (AVal.tuple [AVal.int IntKind.i64 2, AVal.int IntKind.i64 2, AVal.bool true]) [])
  else
  bif s == [112, 114, 105, 110, 116] then k (Out.ret (AVal.tuple [AVal.int IntKind.i64 1, AVal.int IntKind.i64 8, AVal.bool true]) [])
  else k (Out.ret (AVal.tuple [AVal.int IntKind.i64 0, AVal.int IntKind.i64 0, AVal.bool false]) [])
  else
  bif s == [111, 114] then
  bif s == [111, 114] then k (Out.ret (AVal.tuple [AVal.int IntKind.i64 2, AVal.int IntKind.i64 2, AVal.bool true]) [])
  else
  bif s == [112, 114, 105, 110, 116] then k (Out.ret (AVal.tuple [AVal.int IntKind.i64 1, AVal.int IntKind.i64 8, AVal.bool true]) [])
  else k (Out.ret (AVal.tuple [AVal.int IntKind.i64 0, AVal.int IntKind.i64 0, AVal.bool false]) [])
  else
  bif s == [106, 111, 105, 110] then
  bif s == [106, 111, 105, 110] then k (Out.ret (AVal.tuple [AVal.int IntKind.i64 2, AVal.int IntKind.i64 2, AVal.bool true]) [])
  else
  bif s == [112, 114, 105, 110, 116] then k (Out.ret (AVal.tuple [AVal.int IntKind.i64 1, AVal.int IntKind.i64 8, AVal.bool true]) [])
  else k (Out.ret (AVal.tuple [AVal.int IntKind.i64 0, AVal.int IntKind.i64 0, AVal.bool false]) [])
  else
  bif s == [100, 101, 102, 97, 117, 108, 116] then
  bif s == [100, 101, 102, 97, 117, 108, 116] then k (Out.ret (AVal.tuple [AVal.int IntKind.i64 2, AVal.int IntKind.i64 2, AVal.bool true]) [])
  else
  bif s == [112, 114, 105, 110, 116] then k (Out.ret (AVal.tuple [AVal.int IntKind.i64 1, AVal.int IntKind.i64 8, AVal.bool true]) [])
  else k (Out.ret (AVal.tuple [AVal.int IntKind.i64 0, AVal.int IntKind.i64 0, AVal.bool false]) [])
  else
  bif s == [105, 110, 100, 101, 120] then k (Out.ret (AVal.tuple [AVal.int IntKind.i64 2, AVal.int IntKind.i64 2, AVal.bool true]) [])
  else
  bif s == [112, 114, 105, 110, 116] then k (Out.ret (AVal.tuple [AVal.int IntKind.i64 1, AVal.int IntKind.i64 8, AVal.bool true]) [])
  else k (Out.ret (AVal.tuple [AVal.int IntKind.i64 0, AVal.int IntKind.i64 0, AVal.bool false]) [])
theorem arTree_eq (s : List UInt8) (k : Out → Ans) : arTree s k = k (.ret (.tuple [.int .i64 (ar s).1, .int .i64 (ar s).2.1, .bool (ar s).2.2]) []) := by
  unfold arTree ar
  generalize (s == [108, 101, 110]) = b0
  generalize (s == [110, 111, 116]) = b1
  generalize (s == [117, 112, 112, 101, 114]) = b2
  generalize (s == [108, 111, 119, 101, 114]) = b3
  generalize (s == [101, 113]) = b4
  generalize (s == [108, 116]) = b5
  generalize (s == [97, 110, 100]) = b6
  generalize (s == [111, 114]) = b7
  generalize (s == [106, 111, 105, 110]) = b8
  generalize (s == [100, 101, 102, 97, 117, 108, 116]) = b9
  generalize (s == [105, 110, 100, 101, 120]) = b10
  generalize (s == [112, 114, 105, 110, 116]) = b11
  cases b0 with | true => rfl | false => (cases b1 with | true => rfl | false => (cases b2 with | true => rfl | false => (cases b3 with | true => rfl | false => (cases b4 with | true => rfl | false => (cases b5 with | true => rfl | false => (cases b6 with | true => rfl | false => (cases b7 with | true => rfl | false => (cases b8 with | true => rfl | false => (cases b9 with | true => rfl | false => (cases b10 with | true => rfl | false => (cases b11 with | true => rfl | false => (rfl))))))))))))
theorem pArity_fun (s : List UInt8) (k : Out → Ans) : iFun Try.prog (layE.hd Try.prog) layE.fhs 0 100 [.str s] [] k = arTree s k := by kernel_rfl
theorem pArity_call (s : List UInt8) (k : Out → Ans) : iFun Try.prog (layE.hd Try.prog) layE.fhs 0 100 [.str s] [] k = k (.ret (.tuple [.int .i64 (ar s).1, .int .i64 (ar s).2.1, .bool (ar s).2.2]) []) := by
  rw [pArity_fun, arTree_eq]
theorem rArity_fun (s : List UInt8) (k : Out → Ans) : iFun Try.prog (layE.hd Try.prog) layE.fhs 0 78 [.str s] [] k = arTree s k := by kernel_rfl
theorem rArity_call (s : List UInt8) (k : Out → Ans) : iFun Try.prog (layE.hd Try.prog) layE.fhs 0 78 [.str s] [] k = k (.ret (.tuple [.int .i64 (ar s).1, .int .i64 (ar s).2.1, .bool (ar s).2.2]) []) := by
  rw [rArity_fun, arTree_eq]
def arTold : FSp := fun xs H k => match xs, H with
  | [.str s], [] => k (.ret (.tuple [.int .i64 (ar s).1, .int .i64 (ar s).2.1, .bool (ar s).2.2]) [])
  | _, _ => none
theorem pArTold_ok (xs : List AVal) (H : Heap) (k : Out → Ans) (out : Out) (ho : arTold xs H k = some out) : ∃ o, CallOK Try.prog 100 xs H o ∧ k o = some out := by
  unfold arTold at ho
  split at ho
  · exact ⟨_, layE_ok.call (pArity_call _), ho⟩
  · simp at ho
theorem rArTold_ok (xs : List AVal) (H : Heap) (k : Out → Ans) (out : Out) (ho : arTold xs H k = some out) : ∃ o, CallOK Try.prog 78 xs H o ∧ k o = some out := by
  unfold arTold at ho
  split at ho
  · exact ⟨_, layE_ok.call (rArity_call _), ho⟩
  · simp at ho
noncomputable def argTold : FSp := fun xs H k => match xs, H with
  | [.agg c], [] => cond (tst (c = encArg (decArg c) ∧ okArg (decArg c))) (k (.ret (.bool (argB (decArg c))) [])) none
  | _, _ => none
theorem pArgTold_ok (xs : List AVal) (H : Heap) (k : Out → Ans) (out : Out) (ho : argTold xs H k = some out) : ∃ o, CallOK Try.prog 99 xs H o ∧ k o = some out := by
  unfold argTold at ho
  split at ho
  · rename_i c
    rw [Bool.cond_eq_ite] at ho
    split at ho
    · rename_i hc
      obtain ⟨h1, h2⟩ := of_tst hc
      generalize decArg c = a at h1 h2 ho
      subst h1
      exact ⟨_, layD_ok.call (pArg_call h2), ho⟩
    · simp at ho
  · simp at ho
theorem rArgTold_ok (xs : List AVal) (H : Heap) (k : Out → Ans) (out : Out) (ho : argTold xs H k = some out) : ∃ o, CallOK Try.prog 77 xs H o ∧ k o = some out := by
  unfold argTold at ho
  split at ho
  · rename_i c
    rw [Bool.cond_eq_ite] at ho
    split at ho
    · rename_i hc
      obtain ⟨h1, h2⟩ := of_tst hc
      generalize decArg c = a at h1 h2 ho
      subst h1
      exact ⟨_, layE_ok.call (rArg_call h2), ho⟩
    · simp at ho
  · simp at ho
noncomputable def layF : Lay := (((layE.addF 100 arTold).addF 78 arTold).addF 99 argTold).addF 77 argTold
theorem layF_ok : layF.OK Try.prog := (((layE_ok.addF pArTold_ok).addF rArTold_ok).addF pArgTold_ok).addF rArgTold_ok

structure CallD where
  name : List UInt8
  af : Bool
  args : List ArgD
def callD0 : CallD := ⟨[], true, []⟩
def encCall (c : CallD) : List AVal := [.str c.name, encL c.af encArg argD0 c.args]
def decCall (r : List AVal) : CallD := ⟨strOf (r.getD 0 .undef), fullOf (r.getD 1 .undef), decL decArg (r.getD 1 .undef)⟩
def wfCall (r : List AVal) : Bool := match r with
  | [.str s, p] => wfL wfArg p && decide (lenL p ≤ 1099511627776) && decide (s.length ≤ 1099511627776)
  | _ => false
def okCall (c : CallD) : Prop := c.args.length ≤ 1099511627776 ∧ (∀ a ∈ c.args, okArg a) ∧ c.name.length ≤ 1099511627776
theorem decCall_enc (c : CallD) : decCall (encCall c) = c := by
  cases c
  simp only [decCall, encCall, List.getD_cons_zero, List.getD_cons_succ, strOf, fullOf]
  rw [decL_encL (g := decArg) (f := encArg) decArg_enc]
theorem okArg_of {r : List AVal} (h : wfArg r = true) : okArg (decArg r) := by
  unfold wfArg at h
  split at h
  · rename_i k s p n t
    simp only [Bool.and_eq_true, decide_eq_true_eq] at h
    obtain ⟨⟨⟨h1, h2⟩, h3⟩, h4⟩ := h
    refine ⟨by rw [show (decArg [.int .i64 k, .str s, p, .int .i64 n, .str t]).path = decL decS p from rfl, lenL_decL h1]; exact h2, fun x hx => ?_, h3, h4⟩
    have hx' : x ∈ decL decS p := hx
    cases p <;> simp only [wfL, Bool.false_eq_true] at h1
    rename_i full m row
    simp only [decL, List.mem_map, List.mem_range] at hx'
    obtain ⟨i, hi, rfl⟩ := hx'
    have := List.all_eq_true.1 h1 i (by simpa using hi)
    unfold wfStr at this
    split at this
    · rename_i e; rw [e]; simpa [decS, strOf] using this
    · simp at this
  · simp at h
theorem mem_decL {α : Type} {w : List AVal → Bool} {g : List AVal → α} {x : AVal} (hx : wfL w x = true) {a : α} (ha : a ∈ decL g x) : ∃ r, w r = true ∧ a = g r := by
  cases x <;> simp only [wfL, Bool.false_eq_true] at hx
  rename_i full m row
  simp only [decL, List.mem_map, List.mem_range] at ha
  obtain ⟨i, hi, rfl⟩ := ha
  exact ⟨row i, List.all_eq_true.1 hx i (by simpa using hi), rfl⟩
theorem getD_ok {α : Type} {p : α → Prop} {l : List α} {d : α} (h : ∀ a ∈ l, p a) {i : Nat} (hi : i < l.length) : p (l.getD i d) := by
  refine h _ ?_
  rw [List.getD_eq_getElem?_getD, List.getElem?_eq_getElem hi]
  exact List.getElem_mem hi
/- the arguments of a call, searched -/
def aIdxFH : FH := .of [(2, loopSpec 19 [0,1,7,8] [] [4] [] (idxSp wfArg decArg (fun a => !argB a) 98))]
noncomputable abbrev aIdxTurn := lturn Try.prog layF aIdxFH 108 2 [0,1,7,8] [] [4] []
abbrev aIdxSt (full : Bool) (l : List ArgD) (i : Int) (H : Heap) (D : List (FuncId × List AVal)) : St := stL 19 [0,1,7,8] [encL full encArg argD0 l, .func 98 [], .int .i64 l.length, .int .i64 i] [] [] H D
theorem aIdx_step0 (full : Bool) (l : List ArgD) (i : Nat) (H : Heap) (D : List (FuncId × List AVal)) (k : Kont) : aIdxTurn (aIdxSt full l i H D) k =
    cond (decide ((i : Int) < l.length)) (cond (decide ((i : Int) < l.length)) (cond (tst (encArg (l.getD (i : Int).toNat argD0) = encArg (decArg (encArg (l.getD (i : Int).toNat argD0))) ∧ okArg (decArg (encArg (l.getD (i : Int).toNat argD0)))))
      (cond (!argB (decArg (encArg (l.getD (i : Int).toNat argD0)))) (k .ret (stL 19 [4] [.int .i64 i] [] [] H D)) (k .normal (aIdxSt full l (IntKind.i64.wrap ((i : Int) + 1)) H D))) none) none)
      (k (.exit 0) (stL 19 [4] [.undef] [] [] H D)) := by kernel_rfl
theorem idxSp_ok2 {α : Type} {ok : α → Prop} {w : List AVal → Bool} {g : List AVal → α} {f : α → List AVal} {d : α} {p : α → Bool} {cl : FuncId} {turn : St → Kont → Ans} (hw : ∀ r, w r = true → SubL r (f (g r))) (hok : ∀ r, w r = true → ok (g r))
    (h1 : ∀ (full : Bool) (l : List α) (i : Nat) (H : Heap) (D : List (FuncId × List AVal)) (k : Kont), (∀ a ∈ l, ok a) → i < l.length → l.length ≤ 1099511627776 → turn (stL 19 [0,1,7,8] [encL full f d l, .func cl [], .int .i64 l.length, .int .i64 i] [] [] H D) k =
      cond (p (l.getD i d)) (k .ret (stL 19 [4] [.int .i64 i] [] [] H D)) (k .normal (stL 19 [0,1,7,8] [encL full f d l, .func cl [], .int .i64 l.length, .int .i64 ((i + 1 : Nat) : Int)] [] [] H D)))
    (h0 : ∀ (full : Bool) (l : List α) (H : Heap) (D : List (FuncId × List AVal)) (k : Kont), turn (stL 19 [0,1,7,8] [encL full f d l, .func cl [], .int .i64 l.length, .int .i64 l.length] [] [] H D) k = k (.exit 0) (stL 19 [4] [.undef] [] [] H D)) :
    SpOK turn 19 [0,1,7,8] [] [4] [] (idxSp w g p cl) := by
  intro vs bs H k out ho
  unfold idxSp at ho
  split at ho
  case h_2 => simp at ho
  rename_i x c n z
  rw [Bool.cond_eq_ite] at ho
  split at ho
  case isFalse => simp at ho
  rename_i hc
  simp only [Bool.and_eq_true, beq_iff_eq, decide_eq_true_eq, List.isEmpty_iff] at hc
  obtain ⟨⟨⟨⟨⟨hx, rfl⟩, rfl⟩, rfl⟩, hn⟩, rfl⟩ := hc
  rw [← lenL_decL (g := g) hx] at hn ⊢
  have hall : ∀ a ∈ decL g x, ok a := fun a ha => by
    obtain ⟨r, h1, rfl⟩ := mem_decL hx ha
    exact hok r h1
  generalize hl : decL g x = l at ho hn hall ⊢
  have hs : SubT x (encL (fullOf x) f d l) := by rw [← hl]; exact subT_encL hx hw
  have hrun : ∀ D k, rounds turn (l.length + 1) (stL 19 [0,1,7,8] [encL (fullOf x) f d l, .func c [], .int .i64 l.length, .int .i64 0] [] [] H D) k = cond (l.any p) (k .ret (stL 19 [4] [.int .i64 (l.findIdx p : Nat)] [] [] H D)) (k (.exit 0) (stL 19 [4] [.undef] [] [] H D)) := by
    intro D k
    have := search_find (turn := turn) (S := fun i => stL 19 [0,1,7,8] [encL (fullOf x) f d l, .func c [], .int .i64 l.length, .int .i64 (i : Nat)] [] [] H D) (hit := fun i => p (l.getD i d)) (n := l.length) (e0 := .exit 0) (e1 := .ret)
      (R0 := stL 19 [4] [.undef] [] [] H D) (R1 := fun i => stL 19 [4] [.int .i64 (i : Nat)] [] [] H D) (fun i k hi => h1 _ _ _ _ _ _ hall hi hn) (fun k => h0 _ _ _ _ _) (by simp) (by simp) k
    rw [find_getD] at this
    refine Eq.trans this ?_
    cases l.any p <;> rfl
  cases ha : l.any p with
  | true =>
    rw [ha] at ho
    exact ⟨_, _, _, _, _, _, .cons hs (.refl _), ⟨_, fun D k => by rw [hrun, ha]; rfl⟩, .refl _, ho⟩
  | false =>
    rw [ha] at ho
    exact ⟨_, _, _, _, _, _, .cons hs (.refl _), ⟨_, fun D k => by rw [hrun, ha]; rfl⟩, .refl _, ho⟩
theorem aIdx_ok : SpOK aIdxTurn 19 [0,1,7,8] [] [4] [] (idxSp wfArg decArg (fun a => !argB a) 98) :=
  idxSp_ok2 (ok := okArg) (d := argD0) (f := encArg) wfArg_sub (fun r h => okArg_of h) (fun full l i H D k hl hi hn => by
    rw [aIdx_step0, decide_eq_true (show (i : Int) < l.length by omega), wrap_add1 (by omega), decArg_enc, Int.toNat_natCast, tst_true ⟨rfl, getD_ok hl hi⟩]; rfl)
    (fun full l H D k => by rw [aIdx_step0, decide_eq_false (by omega)]; rfl)
noncomputable def layG : Lay := layF.addL 108 aIdxFH
theorem layG_ok : layG.OK Try.prog := layF_ok.loop1 (id := 2) (by kernel_rfl) (by kernel_rfl) (by kernel_rfl) aIdx_ok
end Go.Mu
