/-
  What slices.Index and slices.Contains tell of a list of texts.
-/
import Derived.Test.YtlbmedmddoljnaaRTree
set_option linter.unusedVariables false
set_option linter.unusedSimpArgs false
set_option maxRecDepth 100000
namespace Go.Mu
open Go Go.Proofs
def ixSp : LSp := fun vs bs H k => match vs with
  | [x, .str s, .int .i64 n, .int .i64 z] => cond (wfL wfS x && n == (lenL x : Int) && z == 0 && decide (lenL x ≤ 1099511627776) && bs.isEmpty)
      (cond ((decL decS x).any (fun e => s == e)) (k .ret [.int .i64 ((decL decS x).findIdx (fun e => s == e) : Nat)] [] H) (k (.exit 0) [.undef] [] H)) none
  | _ => none
def ixFH : FH := .of [(2, loopSpec 19 [0,1,7,8] [] [4] [] ixSp)]
noncomputable abbrev ixTurn := lturn Try.prog .nil ixFH 69 2 [0,1,7,8] [] [4] []
abbrev ixSt (full : Bool) (l : List Nm) (s : Nm) (i : Int) (H : Heap) (D : List (FuncId × List AVal)) : St := stL 19 [0,1,7,8] [encSs full l, .str s, .int .i64 l.length, .int .i64 i] [] [] H D
theorem ix_step0 (full : Bool) (l : List Nm) (s : Nm) (i : Nat) (H : Heap) (D : List (FuncId × List AVal)) (k : Kont) : ixTurn (ixSt full l s i H D) k =
    cond (decide ((i : Int) < l.length)) (cond (decide ((i : Int) < l.length)) (cond (s == l.getD (i : Int).toNat []) (k .ret (stL 19 [4] [.int .i64 i] [] [] H D)) (k .normal (ixSt full l s (IntKind.i64.wrap ((i : Int) + 1)) H D))) none)
      (k (.exit 0) (stL 19 [4] [.undef] [] [] H D)) := by kernel_rfl
theorem ixSp_ok : SpOK ixTurn 19 [0,1,7,8] [] [4] [] ixSp := by
  intro vs bs H k out ho
  unfold ixSp at ho
  split at ho
  case h_2 => simp at ho
  rename_i x s n z
  rw [Bool.cond_eq_ite] at ho
  split at ho
  case isFalse => simp at ho
  rename_i hc
  simp only [Bool.and_eq_true, beq_iff_eq, decide_eq_true_eq, List.isEmpty_iff] at hc
  obtain ⟨⟨⟨⟨hx, rfl⟩, rfl⟩, hn⟩, rfl⟩ := hc
  rw [← lenL_decL (g := decS) hx] at hn ⊢
  generalize hl : decL decS x = l at ho hn ⊢
  have hs : SubT x (encSs (fullOf x) l) := by rw [← hl]; exact subT_encL hx wfS_sub
  have hrun : ∀ D k, rounds ixTurn (l.length + 1) (ixSt (fullOf x) l s 0 H D) k = cond (l.any (fun e => s == e)) (k .ret (stL 19 [4] [.int .i64 (l.findIdx (fun e => s == e) : Nat)] [] [] H D)) (k (.exit 0) (stL 19 [4] [.undef] [] [] H D)) := by
    intro D k
    have := search_find (turn := ixTurn) (S := fun i => ixSt (fullOf x) l s (i : Nat) H D) (hit := fun i => s == l.getD i []) (n := l.length) (e0 := .exit 0) (e1 := .ret)
      (R0 := stL 19 [4] [.undef] [] [] H D) (R1 := fun i => stL 19 [4] [.int .i64 (i : Nat)] [] [] H D) (fun i k hi => by
        rw [ix_step0, decide_eq_true (show (i : Int) < l.length by omega), wrap_add1 (by omega)]; rfl) (fun k => by rw [ix_step0, decide_eq_false (by omega)]; rfl) (by simp) (by simp) k
    rw [find_getD (fun e => s == e)] at this
    refine Eq.trans this ?_
    cases l.any (fun e => s == e) <;> rfl
  cases ha : l.any (fun e => s == e) with
  | true =>
    rw [ha] at ho
    exact ⟨_, _, _, _, _, _, .cons hs (.refl _), ⟨_, fun D k => by rw [hrun, ha]; rfl⟩, .refl _, ho⟩
  | false =>
    rw [ha] at ho
    exact ⟨_, _, _, _, _, _, .cons hs (.refl _), ⟨_, fun D k => by rw [hrun, ha]; rfl⟩, .refl _, ho⟩
noncomputable def layIx : Lay := Lay.nil.addL 69 ixFH
theorem layIx_ok : layIx.OK Try.prog := Lay.nil_ok.loop1 (id := 2) (by kernel_rfl) (by kernel_rfl) (by kernel_rfl) ixSp_ok
theorem cont_fun (full : Bool) (l : List Nm) (s : Nm) (k : Out → Ans) : iFun Try.prog (layIx.hd Try.prog) layIx.fhs 0 35 [encSs full l, .str s] [] k =
    cond (wfL wfS (encSs full l) && (l.length : Int) == (lenL (encSs full l) : Int) && (0 : Int) == 0 && decide (lenL (encSs full l) ≤ 1099511627776) && ([] : List (List AVal)).isEmpty)
      (cond ((decL decS (encSs full l)).any (fun e => s == e)) (k (.ret (.bool (decide ((((decL decS (encSs full l)).findIdx (fun e => s == e) : Nat) : Int) ≥ 0))) [])) (k (.ret (.bool false) []))) none := by kernel_rfl
theorem decS_enc (full : Bool) (l : List Nm) : decL decS (encSs full l) = l := decL_encL (fun s => rfl) l
theorem cont_call {full : Bool} {l : List Nm} {s : Nm} (h : l.length ≤ 1099511627776) (k : Out → Ans) : iFun Try.prog (layIx.hd Try.prog) layIx.fhs 0 35 [encSs full l, .str s] [] k = k (.ret (.bool (l.contains s)) []) := by
  rw [cont_fun, decS_enc, wfL_encL (fun _ => rfl)]
  have e : l.contains s = l.any (fun e => s == e) := List.contains_eq_any_beq
  have e2 : lenL (encSs full l) = l.length := rfl
  rw [e2, decide_eq_true h, e]
  simp only [beq_self_eq_true, Bool.and_self, List.isEmpty_nil, cond_true]
  rw [decide_eq_true (by omega)]
  cases l.any (fun e => s == e) <;> rfl
/-- slices.Contains, told -/
def contTold : FSp := fun xs H k => match xs, H with
  | [x, .str s], [] => cond (wfL wfS x && decide (lenL x ≤ 1099511627776)) (k (.ret (.bool ((decL decS x).contains s)) [])) none
  | _, _ => none
theorem contTold_ok (xs : List AVal) (H : Heap) (k : Out → Ans) (out : Out) (ho : contTold xs H k = some out) : ∃ o, CallOK Try.prog 35 xs H o ∧ k o = some out := by
  unfold contTold at ho
  split at ho
  · rename_i x s
    rw [Bool.cond_eq_ite] at ho
    split at ho
    · rename_i hc
      simp only [Bool.and_eq_true, decide_eq_true_eq] at hc
      have hn := hc.2
      rw [← lenL_decL (g := decS) hc.1] at hn
      exact ⟨_, (layIx_ok.call (cont_call hn)).subArgs (.cons (sub_encL hc.1 wfS_sub) (.refl _)), ho⟩
    · simp at ho
  · simp at ho
noncomputable def layCt : Lay := layIx.addF 35 contTold
theorem layCt_ok : layCt.OK Try.prog := layIx_ok.addF contTold_ok
end Go.Mu
