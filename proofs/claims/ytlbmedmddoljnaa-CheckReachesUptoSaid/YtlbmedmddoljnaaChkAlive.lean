/-
  The page's example of muslinlaw22, evaluated.
-/
import Derived.Test.YtlbmedmddoljnaaMuLoop
import Derived.Test.YtlbmedmddoljnaaProg
import Derived.KernelRfl
set_option maxRecDepth 100000
namespace Go.Mu
open Go Go.Proofs
def aliveFhs : FuncId → FH := fun f => match f with
  | 9 => { heap := [28] } | 10 => { heap := [2, 3, 49] } | 13 => { heap := [2, 5, 6] } | 14 => { heap := [3] } | 18 => { heap := [16] } | 20 => { heap := [1] } | 31 => { heap := [7] } | 32 => { heap := [4] } | 37 => { heap := [1] } | 72 => { heap := [3] } | _ => {}
theorem noneTab_ok : HOK Try.prog (hd (fun _ => none)) := hd_ok (fun g s h => by simp at h)
theorem alive_eval (k : Out → Ans) : iAll Try.prog (hd (fun _ => none)) (fun _ => false) aliveFhs 60 20 8 [] [] k = k (.ret (.bool true) []) := by kernel_rfl
theorem alive_ok : CallOK Try.prog 8 [] [] (.ret (.bool true) []) :=
  callOK_of (mu_sound noneTab_ok (.none (fun g i => by unfold aliveFhs; split <;> rfl)) 60 20) alive_eval
def aliveTold : FSp := fun xs H k => match xs, H with
  | [], [] => k (.ret (.bool true) [])
  | _, _ => none
theorem aliveTold_ok (xs : List AVal) (H : Heap) (k : Out → Ans) (out : Out) (ho : aliveTold xs H k = some out) : ∃ o, CallOK Try.prog 8 xs H o ∧ k o = some out := by
  unfold aliveTold at ho
  split at ho
  · exact ⟨_, alive_ok, ho⟩
  · simp at ho
end Go.Mu
