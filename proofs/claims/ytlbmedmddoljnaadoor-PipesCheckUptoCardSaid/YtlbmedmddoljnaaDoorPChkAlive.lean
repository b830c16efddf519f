/-
  The page's example of muslinlaw19, evaluated.
-/
import Derived.Test.YtlbmedmddoljnaaDoorPSameR
import Derived.KernelRfl
set_option linter.unusedVariables false
set_option linter.unusedSimpArgs false
set_option maxRecDepth 100000
namespace Go.Mu
open Go Go.Proofs
def aliveFhsD : FuncId → FH := fun f => match f with
  | 16 => { heap := [4, 5, 6], live := [(3, [0, 1, 4, 5, 6])] }
  | 23 => { heap := [4, 5, 6, 12], live := [(3, [0, 1, 4, 5, 6, 7])] }
  | 33 => { heap := [], live := [(2, [0, 1, 7, 8])] }
  | 35 => { heap := [], live := [(12, [1, 4, 5, 7, 8, 10, 59, 60, 61])] }
  | 103 => { heap := [], live := [(2, [0, 1, 7, 8])] }
  | 113 => { heap := [], live := [(1, [0, 1])] }
  | 114 => { heap := [], live := [(1, [0, 1, 2])] }
  | 120 => { heap := [], live := [(8, [4, 6, 7, 8]), (3, [0, 4, 5])] }
  | 126 => { heap := [], live := [(1, [0, 1])] }
  | 127 => { heap := [], live := [(1, [0, 1])] }
  | 128 => { heap := [], live := [(1, [0, 1])] }
  | 129 => { heap := [], live := [(2, [0, 1, 5])] }
  | 134 => { heap := [], live := [(2, [0, 1, 7, 8])] }
  | 139 => { heap := [], live := [(38, [175]), (29, [0, 7, 8, 9, 14, 15, 16]), (25, [0, 7, 8, 9, 14, 15]), (12, [0, 7, 8, 9, 12]), (5, [0, 7, 8, 9])] }
  | 140 => { heap := [], live := [(10, [0, 4, 5, 6])] }
  | 141 => { heap := [], live := [(11, [0, 1, 2, 3, 9, 10])] }
  | 142 => { heap := [], live := [(2, [1, 2, 10])] }
  | 143 => { heap := [], live := [(2, [0, 1, 7, 8])] }
  | 146 => { heap := [], live := [(6, [0, 1, 6, 7])] }
  | 147 => { heap := [], live := [(6, [0, 1, 5])] }
  | 148 => { heap := [], live := [(2, [2, 4])] }
  | _ => {}
theorem aliveD_eval (k : Out → Ans) : iAll Tryd.prog (hd (fun _ => none)) (fun _ => false) aliveFhsD 60 20 14 [] [] k =
    cond (((@ite Bool (nilList = nilList) (Classical.propDecidable _) true false) && true) && true && true) (k (.ret (.bool true) [])) none := by kernel_rfl
theorem noneTabD_ok : HOK Tryd.prog (hd (fun _ => none)) := hd_ok (fun g s h => by simp at h)
theorem aliveD_loops : LoopsOK Tryd.prog aliveFhsD := .none (fun g i => by unfold aliveFhsD; split <;> rfl)
theorem aliveD_ok : CallOK Tryd.prog 14 [] [] (.ret (.bool true) []) :=
  callOK_of (mu_sound noneTabD_ok aliveD_loops 60 20) (fun k => by rw [aliveD_eval, if_pos rfl]; rfl)
def aliveDTold : FSp := fun xs H k => match xs, H with
  | [], [] => k (.ret (.bool true) [])
  | _, _ => none
theorem aliveDTold_ok (xs : List AVal) (H : Heap) (k : Out → Ans) (out : Out) (ho : aliveDTold xs H k = some out) : ∃ o, CallOK Tryd.prog 14 xs H o ∧ k o = some out := by
  unfold aliveDTold at ho
  split at ho
  · exact ⟨_, aliveD_ok, ho⟩
  · simp at ho
noncomputable def layPL : Lay := layU.addF 14 aliveDTold
theorem layPL_ok : layPL.OK Tryd.prog := layU_ok.addF aliveDTold_ok
end Go.Mu
