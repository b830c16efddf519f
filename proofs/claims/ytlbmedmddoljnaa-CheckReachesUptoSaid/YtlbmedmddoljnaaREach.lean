/-
  What check.each does with check.Calls$1: by depth.
-/
import Derived.Test.YtlbmedmddoljnaaRCalls
set_option linter.unusedVariables false
set_option linter.unusedSimpArgs false
set_option maxRecDepth 100000
namespace Go.Mu
open Go Go.Proofs
/-- check.each with check.Calls$1, told up to a depth -/
noncomputable def eachTold (d : Nat) : FSp := fun xs H k => match xs with
  | [x, .func c [.ptr (.hp 0) 0]] => cond (tst (c = 36 ∧ wfV d x ∧ H = Hout (ofHout H) ∧ (ofHout H).length + cntV d x ≤ 1099511627776)) (k (.ret (.bool true) (Hout (callsV d x (ofHout H))))) none
  | _ => none
noncomputable def layE (d : Nat) : Lay := layC1.addF 29 (eachTold d)
noncomputable def eachSp (d : Nat) : LSp := fun vs bs H k => match vs with
  | [.func c [.ptr (.hp 0) 0], x, .int .i64 n, .int .i64 z] => cond (tst (c = 36 ∧ wfV (d + 1) x ∧ n = (lenL x : Int) ∧ z = 0 ∧ bs = [] ∧ H = Hout (ofHout H) ∧ (ofHout H).length + cntV (d + 1) x ≤ 1099511627776))
      (k (.exit 0) [.undef] [] (Hout (callsV (d + 1) x (ofHout H)))) none
  | _ => none
noncomputable def eachFH (d : Nat) : FH := .of [(2, loopSpec 32 [1,7,8,9] [] [4] [] (eachSp d))]
noncomputable abbrev eachTurn (d : Nat) := lturn Try.prog (layE d) (eachFH d) 29 2 [1,7,8,9] [] [4] []
abbrev eachSt (full : Bool) (l : List NdD) (i : Int) (H : Heap) (D : List (FuncId × List AVal)) : St := stL 32 [1,7,8,9] [.func 36 [.ptr (.hp 0) 0], encNds full l, .int .i64 l.length, .int .i64 i] [] [] H D
noncomputable abbrev eH1 (n : NdD) (H : Heap) : Heap := Hout (addN (decNd (encNd n)) (ofHout H))
noncomputable abbrev eH2 (d : Nat) (n : NdD) (H : Heap) : Heap := Hout (callsV d n.body (ofHout (eH1 n H)))
noncomputable abbrev eH3 (d : Nat) (n : NdD) (H : Heap) : Heap := Hout (callsV d n.els (ofHout (eH2 d n H)))
noncomputable abbrev eT1 (n : NdD) (H : Heap) : Bool := tst (encNd n = encNd (decNd (encNd n)) ∧ H = Hout (ofHout H) ∧ (ofHout H).length ≤ 1099511627776)
noncomputable abbrev eT2 (d : Nat) (x : AVal) (H : Heap) : Bool := tst ((36 : Nat) = 36 ∧ wfV d x ∧ H = Hout (ofHout H) ∧ (ofHout H).length + cntV d x ≤ 1099511627776)
theorem each_step0 (d : Nat) (full : Bool) (l : List NdD) (i : Nat) (H : Heap) (D : List (FuncId × List AVal)) (k : Kont) : eachTurn d (eachSt full l i H D) k =
    cond (decide ((i : Int) < l.length)) (cond (decide ((i : Int) < l.length)) (cond (eT1 (l.getD (i : Int).toNat nd0) H) (cond (eT2 d (l.getD (i : Int).toNat nd0).body (eH1 (l.getD (i : Int).toNat nd0) H)) (cond (eT2 d (l.getD (i : Int).toNat nd0).els (eH2 d (l.getD (i : Int).toNat nd0) H))
      (k .normal (eachSt full l (IntKind.i64.wrap ((i : Int) + 1)) (eH3 d (l.getD (i : Int).toNat nd0) H) D)) none) none) none) none)
      (k (.exit 0) (stL 32 [4] [.undef] [] [] H D)) := by kernel_rfl
def stepV (d : Nat) (o : List Nm) (n : NdD) : List Nm := callsV d n.els (callsV d n.body (addN n o))
theorem each_step {d : Nat} {full : Bool} {l : List NdD} {i : Nat} {o : List Nm} (D : List (FuncId × List AVal)) (k : Kont) (hi : i < l.length) (hl : l.length ≤ 1099511627776) (h1 : wfV d (l.getD i nd0).body) (h2 : wfV d (l.getD i nd0).els)
    (hn : o.length + (1 + cntV d (l.getD i nd0).body + cntV d (l.getD i nd0).els) ≤ 1099511627776) : eachTurn d (eachSt full l i (Hout o) D) k = k .normal (eachSt full l ((i + 1 : Nat) : Int) (Hout (stepV d o (l.getD i nd0))) D) := by
  rw [each_step0, decide_eq_true (show (i : Int) < l.length by omega), wrap_add1 (by omega), Int.toNat_natCast]
  generalize l.getD i nd0 = n at h1 h2 hn
  have a1 := addN_len n o
  have a2 := callsV_len d n.body (addN n o)
  simp only [cond_true]
  unfold eH3 eH2 eH1
  rw [decNd_enc, ofHout_mk, ofHout_mk, ofHout_mk]
  unfold eT1 eT2
  rw [decNd_enc, ofHout_mk, ofHout_mk, ofHout_mk, tst_true ⟨rfl, rfl, by omega⟩, tst_true ⟨rfl, h1, rfl, by omega⟩, tst_true ⟨rfl, h2, rfl, by omega⟩]
  rfl
theorem each_run {d : Nat} {full : Bool} {l : List NdD} (D : List (FuncId × List AVal)) (k : Kont) (hl : l.length ≤ 1099511627776) (hw : ∀ n ∈ l, wfV d n.body ∧ wfV d n.els) : ∀ (m i : Nat) (o : List Nm), i + m = l.length → o.length + ((l.drop i).map (fun n => 1 + cntV d n.body + cntV d n.els)).sum ≤ 1099511627776 →
    rounds (eachTurn d) (m + 1) (eachSt full l i (Hout o) D) k = k (.exit 0) (stL 32 [4] [.undef] [] [] (Hout ((l.drop i).foldl (stepV d) o)) D)
  | 0, i, o, he, hn => by
    obtain rfl : i = l.length := by omega
    rw [rounds_succ', each_step0, decide_eq_false (by omega), List.drop_length]
    rfl
  | m + 1, i, o, he, hn => by
    have hi : i < l.length := by omega
    have e1 : l.getD i nd0 = l[i] := by simp [List.getD_eq_getElem?_getD, List.getElem?_eq_getElem hi]
    have hm := hw _ (List.getElem_mem hi)
    rw [← e1] at hm
    rw [List.drop_eq_getElem_cons hi, ← e1] at hn ⊢
    simp only [List.map_cons, List.sum_cons, List.foldl_cons] at hn ⊢
    rw [rounds_succ', each_step D _ hi hl hm.1 hm.2 (by omega)]
    refine each_run D k hl hw m (i + 1) _ (by omega) ?_
    have a1 := addN_len (l.getD i nd0) o
    have a2 := callsV_len d (l.getD i nd0).body (addN (l.getD i nd0) o)
    have a3 := callsV_len d (l.getD i nd0).els (callsV d (l.getD i nd0).body (addN (l.getD i nd0) o))
    unfold stepV
    omega
theorem callsV_succ (d : Nat) (x : AVal) (o : List Nm) : callsV (d + 1) x o = (nodes x).foldl (stepV d) o := rfl
theorem eachSp_ok (d : Nat) : SpOK (eachTurn d) 32 [1,7,8,9] [] [4] [] (eachSp d) := by
  intro vs bs H k out ho
  unfold eachSp at ho
  split at ho
  case h_2 => simp at ho
  rename_i c x n z
  rw [Bool.cond_eq_ite] at ho
  split at ho
  case isFalse => simp at ho
  rename_i hc
  obtain ⟨rfl, ⟨hx, hl, hw⟩, rfl, rfl, rfl, hH, hn⟩ := of_tst hc
  rw [callsV_succ] at ho
  unfold cntV at hn
  have hl2 : (nodes x).length = lenL x := lenL_decL (g := decNd) hx
  have hs : SubT x (encNds (fullOf x) (nodes x)) := subT_encL hx wfNd_sub
  rw [← hl2] at hl ⊢
  generalize nodes x = l at *
  generalize ofHout H = o at *
  subst hH
  have hrun : ∀ D k, rounds (eachTurn d) (l.length + 1) (eachSt (fullOf x) l 0 (Hout o) D) k = k (.exit 0) (stL 32 [4] [.undef] [] [] (Hout (l.foldl (stepV d) o)) D) := fun D k => by
    have := each_run (full := fullOf x) D k hl hw l.length 0 o (by omega) (by simpa using hn)
    simpa using this
  exact ⟨_, _, _, _, _, _, .cons (.refl _) (.cons hs (.refl _)), ⟨_, fun D k => hrun D k⟩, .refl _, ho⟩
noncomputable def layE1 (d : Nat) : Lay := (layE d).addL 29 (eachFH d)
theorem each_fun (d : Nat) (full : Bool) (l : List NdD) (H : Heap) (k : Out → Ans) : iFun Try.prog ((layE1 d).hd Try.prog) (layE1 d).fhs 0 29 [encNds full l, .func 36 [.ptr (.hp 0) 0]] H k =
    cond (tst ((36 : Nat) = 36 ∧ wfV (d + 1) (encNds full l) ∧ (l.length : Int) = (lenL (encNds full l) : Int) ∧ (0 : Int) = 0 ∧ ([] : List (List AVal)) = [] ∧ H = Hout (ofHout H) ∧ (ofHout H).length + cntV (d + 1) (encNds full l) ≤ 1099511627776))
      (k (.ret (.bool true) (Hout (callsV (d + 1) (encNds full l) (ofHout H))))) none := by kernel_rfl
theorem eachTold_ok : ∀ (d : Nat) (xs : List AVal) (H : Heap) (k : Out → Ans) (out : Out), eachTold d xs H k = some out → ∃ o, CallOK Try.prog 29 xs H o ∧ k o = some out
  | d, xs, H, k, out, ho => by
    unfold eachTold at ho
    split at ho
    case h_2 => simp at ho
    rename_i x c
    rw [Bool.cond_eq_ite] at ho
    split at ho
    case isFalse => simp at ho
    rename_i hc
    obtain ⟨rfl, hw, hH, hn⟩ := of_tst hc
    cases d with
    | zero => exact hw.elim
    | succ d =>
      have hE : (layE d).OK Try.prog := layC1_ok.addF (eachTold_ok d)
      have hE1 : (layE1 d).OK Try.prog := hE.loop1 (id := 2) (by kernel_rfl) (by kernel_rfl) (by kernel_rfl) (eachSp_ok d)
      have hs : Sub x (encNds (fullOf x) (nodes x)) := sub_encL hw.1 wfNd_sub
      have e1 : nodes (encNds (fullOf x) (nodes x)) = nodes x := nodes_enc _ _
      have e2 : ∀ o, callsV (d + 1) (encNds (fullOf x) (nodes x)) o = callsV (d + 1) x o := fun o => by rw [callsV_succ, e1, callsV_succ]
      have e3 : cntV (d + 1) (encNds (fullOf x) (nodes x)) = cntV (d + 1) x := by unfold cntV; rw [e1]
      have hl2 : (nodes x).length = lenL x := lenL_decL (g := decNd) hw.1
      have e4 : wfV (d + 1) (encNds (fullOf x) (nodes x)) := ⟨wfL_encL wfNd_enc _, by
        show (nodes x).length ≤ _
        rw [hl2]; exact hw.2.1, by rw [e1]; exact hw.2.2⟩
      refine ⟨_, CallOK.subArgs (hE1.call (o := .ret (.bool true) (Hout (callsV (d + 1) x (ofHout H)))) (fun k => ?_)) (.cons hs (.refl _)), ho⟩
      rw [each_fun, e2, e3, tst_true ⟨rfl, e4, rfl, rfl, rfl, hH, hn⟩]
      rfl
theorem layE_ok (d : Nat) : (layE d).OK Try.prog := layC1_ok.addF (eachTold_ok d)
end Go.Mu
