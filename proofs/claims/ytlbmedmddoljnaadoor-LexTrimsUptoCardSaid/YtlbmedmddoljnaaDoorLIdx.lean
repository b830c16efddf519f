/-
  What internal/stringslite.Index tells, by the library's contract.
-/
import Derived.Shelf.LaysM
import Derived.Shelf.Strings.Shaped
import Derived.Test.YtlbmedmddoljnaaDoorMuLay
import Derived.Test.YtlbmedmddoljnaaDoorProg
import Derived.KernelRfl
set_option linter.unusedVariables false
set_option linter.unusedSimpArgs false
set_option maxRecDepth 100000
namespace Go.Proofs
open Go.Shelf
def Tryd.idxRen : Ren := {
  f := fun x => match x with
    | 219 => 49
    | 217 => 83
    | 225 => 84
    | 224 => 85
    | 267 => 86
    | 266 => 119
    | 314 => 120
    | n => n,
  t := fun x => match x with
    | 9 => 9
    | 3 => 3
    | 4 => 4
    | 5 => 5
    | 46 => 120
    | 146 => 150
    | 51 => 149
    | n => n,
  g := fun x => match x with
    | 1 => 0
    | n => n }
theorem Tryd.idxLays : Lays.n219 Tryd.prog Tryd.idxRen := {
  mixed := by kernel_rfl
  f217 := Tryd.func83.trans (congrArg some (by kernel_rfl))
  f219 := Tryd.func49.trans (congrArg some (by kernel_rfl))
  f224 := Tryd.func85.trans (congrArg some (by kernel_rfl))
  f225 := Tryd.func84.trans (congrArg some (by kernel_rfl))
  f266 := Tryd.func119.trans (congrArg some (by kernel_rfl))
  f267 := Tryd.func86.trans (congrArg some (by kernel_rfl))
  f314 := Tryd.func120.trans (congrArg some (by kernel_rfl))
  t3 := Tryd.underlying3
  a3 := Tryd.isAgg3
  z3 := Tryd.sizeOf3
  v3 := Tryd.zeroValue3
  t4 := Tryd.underlying4
  a4 := Tryd.isAgg4
  z4 := Tryd.sizeOf4
  v4 := Tryd.zeroValue4
  t5 := Tryd.underlying5
  a5 := Tryd.isAgg5
  z5 := Tryd.sizeOf5
  v5 := Tryd.zeroValue5
  t9 := Tryd.underlying9
  a9 := Tryd.isAgg9
  z9 := Tryd.sizeOf9
  v9 := Tryd.zeroValue9
  t46 := Tryd.underlying120
  a46 := Tryd.isAgg120
  z46 := Tryd.sizeOf120
  v46 := Tryd.zeroValue120
  t51 := Tryd.underlying149
  a51 := Tryd.isAgg149
  z51 := Tryd.sizeOf149
  v51 := Tryd.zeroValue149
  t146 := Tryd.underlying150
  a146 := Tryd.isAgg150
  z146 := Tryd.sizeOf150
  v146 := Tryd.zeroValue150
  g1 := by kernel_rfl }
end Go.Proofs
namespace Go.Mu
open Go Go.Proofs
variable {P : Program}
/-- a call that leaves the world as it is -/
theorem CallOK.same {f : FuncId} {xs : List AVal} {H : Heap} {v : AVal} (h : ∀ w E (cs : List Value), Sim w E H → cs.length = xs.length → (∀ j, j < xs.length → Rep w E H (xs.getD j .undef) (cs.getD j undef)) → ∃ c, Calls P f cs.toArray w (fun e w' => e = .returned c ∧ w' = w) ∧ Rep w E H v c) : CallOK P f xs H (.ret v H) := by
  intro w E cs sim hl hr
  obtain ⟨c, h1, h2⟩ := h w E cs sim hl hr
  refine Calls.mono h1 (fun e w' hp => ?_)
  obtain ⟨rfl, rfl⟩ := hp
  exact ⟨E, .refl, sim, h2⟩
theorem idx_ok (a b : List UInt8) (ha : a.length < 4294967281) : CallOK Tryd.prog 49 [.str a, .str b] [] (.ret (.int .i64 (Lib.index a b)) []) := by
  refine CallOK.same (fun w E cs sim hl hr => ?_)
  obtain ⟨x, y, rfl⟩ : ∃ x y, cs = [x, y] := by
    match cs, hl with
    | [x, y], _ => exact ⟨x, y, rfl⟩
  obtain ⟨s, e1, rfl⟩ := rep_str (hr 0 (by simp))
  obtain ⟨t, e2, rfl⟩ := rep_str (hr 1 (by simp))
  replace e1 : x = .string s := e1
  replace e2 : y = .string t := e2
  subst e1 e2
  obtain ⟨_, m, hm⟩ := sim.glob.1 0 .i64 (by rfl)
  exact ⟨_, Any.stringslite_Index Tryd.idxLays s t m w (by simpa using ha) hm, .pure _ _ (.int _ _)⟩
noncomputable def idxTold : FSp := fun xs H k => match xs, H with
  | [.str a, .str b], [] => cond (decide (a.length < 4294967281)) (k (.ret (.int .i64 (Lib.index a b)) [])) none
  | _, _ => none
theorem idxTold_ok (xs : List AVal) (H : Heap) (k : Out → Ans) (out : Out) (ho : idxTold xs H k = some out) : ∃ o, CallOK Tryd.prog 49 xs H o ∧ k o = some out := by
  unfold idxTold at ho
  split at ho
  · rw [Bool.cond_eq_ite] at ho
    split at ho
    · rename_i hc
      exact ⟨_, idx_ok _ _ (of_decide_eq_true hc), ho⟩
    · simp at ho
  · simp at ho
end Go.Mu
