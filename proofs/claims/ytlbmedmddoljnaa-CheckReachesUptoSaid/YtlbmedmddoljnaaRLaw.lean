/-
  The law's loops of muslinlaw22.CheckReaches.
-/
import Derived.Test.YtlbmedmddoljnaaRThere
set_option linter.unusedVariables false
set_option linter.unusedSimpArgs false
set_option maxRecDepth 100000
namespace Go.Mu
open Go Go.Proofs
abbrev rF : FuncId := 5
abbrev hasN (R : List Nm) (c : Nm) : Bool := R.any (fun e => e == c)
def okR (d : Nat) (defs : List DefD) (R : List Nm) : Prop := ∀ e ∈ R, ∀ c ∈ clD d defs e, thD defs c = true → hasN R c = true
def subC (defs : List DefD) (C R : List Nm) : Prop := ∀ e ∈ C, thD defs e = true → hasN R e = true
def okDefsD (d : Nat) (defs : List DefD) : Prop := defs.length < 1099511627776 ∧ ∀ x ∈ defs, wfV d x.body ∧ cntV d x.body ≤ 1099511627776
section
variable (d : Nat) (full : Bool) (defs : List DefD)
noncomputable def sp18 : LSp := fun vs bs H k => match vs with
  | [x, .str nm, r, .int .i64 i, c, .int .i64 z] => cond (tst (x = encDefs full defs ∧ r = encSs false (decL decS r) ∧ c = encSs false (decL decS c) ∧ z = 0 ∧ bs = [] ∧ (decL decS r).length < 1099511627776 ∧ (decL decS c).length ≤ 1099511627776 ∧ subC defs (decL decS c) (decL decS r)))
      (k (.exit 6) [x, .str nm, .undef, r, .int .i64 i] [] H) none
  | _ => none
noncomputable def sp8 : LSp := fun vs bs H k => match vs with
  | [x, .str nm, r, .int .i64 i, .int .i64 z] => cond (tst (r = encSs false (decL decS r) ∧ (decL decS r).Nodup ∧ z = 0 ∧ bs = [] ∧ i = (i.toNat : Int) ∧ i.toNat < (decL decS r).length ∧ (decL decS r).length < 1099511627776))
      (k (.exit 2) [x, .str nm, .undef, r, .int .i64 i] [] H) none
  | _ => none
noncomputable def sp13 : LSp := fun vs bs H k => match vs with
  | [x, .str nm, r, .int .i64 i, .int .i64 z] => cond (tst (x = encDefs full defs ∧ r = encSs false (decL decS r) ∧ okR d defs (decL decS r) ∧ z = 0 ∧ bs = [] ∧ i = (i.toNat : Int) ∧ i.toNat < (decL decS r).length ∧ (decL decS r).length < 1099511627776 ∧ okDefsD d defs))
      (k (.exit 4) [x, .str nm, .undef, r, .int .i64 i] [] H) none
  | _ => none
noncomputable def sp5 : LSp := fun vs bs H k => match vs with
  | [x, .str nm, r, .int .i64 z] => cond (tst (x = encDefs full defs ∧ r = encSs false (decL decS r) ∧ (decL decS r).Nodup ∧ okR d defs (decL decS r) ∧ z = 0 ∧ bs = [] ∧ (decL decS r).length < 1099511627776 ∧ okDefsD d defs))
      (k (.exit 0) [x, .str nm, .undef, r] [] H) none
  | _ => none
noncomputable def lawFH5 : FH := .of [(18, loopSpec 98 [0,1,5,6,9,10] [] [0,1,4,5,6] [] (sp18 full defs)), (8, loopSpec 98 [0,1,5,6,7] [] [0,1,4,5,6] [] sp8), (13, loopSpec 98 [0,1,5,6,8] [] [0,1,4,5,6] [] (sp13 d full defs)), (5, loopSpec 98 [0,1,5,6] [] [0,1,4,5] [] (sp5 d full defs))]
noncomputable abbrev t18 := lturn Try.prog (layL0 d full defs) (lawFH5 d full defs) rF 18 [0,1,5,6,9,10] [] [0,1,4,5,6] []
noncomputable abbrev t8 := lturn Try.prog (layL0 d full defs) (lawFH5 d full defs) rF 8 [0,1,5,6,7] [] [0,1,4,5,6] []
noncomputable abbrev t13 := lturn Try.prog (layL0 d full defs) (lawFH5 d full defs) rF 13 [0,1,5,6,8] [] [0,1,4,5,6] []
noncomputable abbrev t5 := lturn Try.prog (layL0 d full defs) (lawFH5 d full defs) rF 5 [0,1,5,6] [] [0,1,4,5] []
abbrev s18 (nm : Nm) (R : List Nm) (i : Int) (C : List Nm) (m : Int) (H : Heap) (D : List (FuncId × List AVal)) : St := stL 98 [0,1,5,6,9,10] [encDefs full defs, .str nm, encSs false R, .int .i64 i, encSs false C, .int .i64 m] [] [] H D
abbrev s8 (x : AVal) (nm : Nm) (R : List Nm) (i : Int) (j : Int) (H : Heap) (D : List (FuncId × List AVal)) : St := stL 98 [0,1,5,6,7] [x, .str nm, encSs false R, .int .i64 i, .int .i64 j] [] [] H D
abbrev s13 (nm : Nm) (R : List Nm) (i : Int) (j : Int) (H : Heap) (D : List (FuncId × List AVal)) : St := stL 98 [0,1,5,6,8] [encDefs full defs, .str nm, encSs false R, .int .i64 i, .int .i64 j] [] [] H D
abbrev s5 (nm : Nm) (R : List Nm) (i : Int) (H : Heap) (D : List (FuncId × List AVal)) : St := stL 98 [0,1,5,6] [encDefs full defs, .str nm, encSs false R, .int .i64 i] [] [] H D
variable (nm : Nm) (R C : List Nm) (i m : Nat) (H : Heap) (D : List (FuncId × List AVal)) (k : Kont)
theorem step18 (i : Int) : t18 d full defs (s18 full defs nm R i C m H D) k =
    cond (decide ((m : Int) < C.length)) (cond (decide ((m : Int) < C.length)) (cond (tst (encDefs full defs = encDefs full defs)) (cond (decide ((m : Int) < C.length) || !thD defs (C.getD (m : Int).toNat []))
      (cond (tst (encSs false R = encSs false (decL decS (encSs false R)) ∧ (decL decS (encSs false R)).length < 1099511627776))
        (cond (cond (thD defs (C.getD (m : Int).toNat [])) (!(decL decS (encSs false R)).any (fun e => e == C.getD (m : Int).toNat [])) false)
          (k .ret (stL 98 [0,1,4,5,6] [encDefs full defs, .str nm, .bool false, encSs false R, .int .i64 i] [] [] H D))
          (k .normal (s18 full defs nm R i C (IntKind.i64.wrap ((m : Int) + 1)) H D))) none) none) none) none)
      (k (.exit 6) (stL 98 [0,1,4,5,6] [encDefs full defs, .str nm, .undef, encSs false R, .int .i64 i] [] [] H D)) := by kernel_rfl
theorem step8 (x : AVal) : t8 d full defs (s8 x nm R i m H D) k =
    cond (decide ((m : Int) < i)) (cond (decide ((i : Int) < R.length)) (cond (decide ((m : Int) < R.length)) (cond (R.getD (i : Int).toNat [] == R.getD (m : Int).toNat [])
        (k .ret (stL 98 [0,1,4,5,6] [x, .str nm, .bool false, encSs false R, .int .i64 i] [] [] H D))
        (k .normal (s8 x nm R i (IntKind.i64.wrap ((m : Int) + 1)) H D))) none) none)
      (k (.exit 2) (stL 98 [0,1,4,5,6] [x, .str nm, .undef, encSs false R, .int .i64 i] [] [] H D)) := by kernel_rfl
abbrev bdm (m : Nat) : AVal := (defs.getD (m : Int).toNat def0).body
theorem step13 : t13 d full defs (s13 full defs nm R i m H D) k =
    cond (decide ((m : Int) < defs.length)) (cond (decide ((m : Int) < defs.length)) (cond (decide ((i : Int) < R.length)) (cond (!((defs.getD (m : Int).toNat def0).name == R.getD (i : Int).toNat []))
        (k .normal (s13 full defs nm R i (IntKind.i64.wrap ((m : Int) + 1)) H D))
        (cond (decide ((m : Int) < defs.length)) (cond (tst (wfV d (bdm defs m) ∧ cntV d (bdm defs m) ≤ 1099511627776))
          (cond (tst (encDefs full defs = encDefs full defs ∧ encSs false R = encSs false (decL decS (encSs false R)) ∧ encSs false (callsV d (bdm defs m) []) = encSs false (decL decS (encSs false (callsV d (bdm defs m) []))) ∧ (0 : Int) = 0 ∧ ([] : List (List AVal)) = [] ∧ (decL decS (encSs false R)).length < 1099511627776 ∧ (decL decS (encSs false (callsV d (bdm defs m) []))).length ≤ 1099511627776 ∧ subC defs (decL decS (encSs false (callsV d (bdm defs m) []))) (decL decS (encSs false R))))
            (k (.exit 4) (stL 98 [0,1,4,5,6] [encDefs full defs, .str nm, .undef, encSs false R, .int .i64 i] [] [] H D)) none) none) none)) none) none)
      (k (.exit 4) (stL 98 [0,1,4,5,6] [encDefs full defs, .str nm, .undef, encSs false R, .int .i64 i] [] [] H D)) := by kernel_rfl
theorem step5 : t5 d full defs (s5 full defs nm R i H D) k =
    cond (decide ((i : Int) < R.length)) (cond (tst (encSs false R = encSs false (decL decS (encSs false R)) ∧ (decL decS (encSs false R)).Nodup ∧ (0 : Int) = 0 ∧ ([] : List (List AVal)) = [] ∧ (i : Int) = ((i : Int).toNat : Int) ∧ (i : Int).toNat < (decL decS (encSs false R)).length ∧ (decL decS (encSs false R)).length < 1099511627776))
      (cond (tst (encDefs full defs = encDefs full defs ∧ encSs false R = encSs false (decL decS (encSs false R)) ∧ okR d defs (decL decS (encSs false R)) ∧ (0 : Int) = 0 ∧ ([] : List (List AVal)) = [] ∧ (i : Int) = ((i : Int).toNat : Int) ∧ (i : Int).toNat < (decL decS (encSs false R)).length ∧ (decL decS (encSs false R)).length < 1099511627776 ∧ okDefsD d defs))
        (k .normal (s5 full defs nm R (IntKind.i64.wrap ((i : Int) + 1)) H D)) none) none)
      (k (.exit 0) (stL 98 [0,1,4,5] [encDefs full defs, .str nm, .undef, encSs false R] [] [] H D)) := by kernel_rfl
end
/-- rounds that go on to the end -/
theorem runs_on {turn : St → Kont → Ans} {S : Nat → St} {n : Nat} {e0 : AExit} {R0 : St} (h1 : ∀ i k, i < n → turn (S i) k = k .normal (S (i + 1))) (h0 : ∀ k, turn (S n) k = k e0 R0) (he0 : e0 ≠ .normal) (k : Kont) : ∀ (m i : Nat), i + m = n → rounds turn (m + 1) (S i) k = k e0 R0
  | 0, i, he => by
    obtain rfl : i = n := by omega
    rw [rounds_succ', h0]
    cases e0 <;> first | exact absurd rfl he0 | rfl
  | m + 1, i, he => by
    rw [rounds_succ', h1 i _ (by omega)]
    exact runs_on h1 h0 he0 k m (i + 1) (by omega)
/-- rounds up to the first that meets a test, or to the end: both go on alike -/
theorem runs_first {turn : St → Kont → Ans} {S : Nat → St} {hit : Nat → Bool} {n : Nat} {e0 : AExit} {R0 : St} (h1 : ∀ i k, i < n → (∀ j, j < i → hit j = false) → turn (S i) k = cond (hit i) (k e0 R0) (k .normal (S (i + 1)))) (h0 : ∀ k, turn (S n) k = k e0 R0) (he0 : e0 ≠ .normal) (k : Kont) : ∀ (m i : Nat), i + m = n → (∀ j, j < i → hit j = false) → rounds turn (m + 1) (S i) k = k e0 R0
  | 0, i, he, _ => by
    obtain rfl : i = n := by omega
    rw [rounds_succ', h0]
    cases e0 <;> first | exact absurd rfl he0 | rfl
  | m + 1, i, he, hf => by
    rw [rounds_succ', h1 i _ (by omega) hf]
    cases hh : hit i with
    | true =>
      rw [cond_true]
      cases e0 <;> first | exact absurd rfl he0 | rfl
    | false => exact runs_first h1 h0 he0 k m (i + 1) (by omega) (fun j hj => by
        rcases Nat.lt_or_ge j i with g | g
        · exact hf j g
        · obtain rfl : j = i := by omega
          exact hh)
section
variable (d : Nat) (full : Bool) (defs : List DefD)
theorem sp18_ok : SpOK (t18 d full defs) 98 [0,1,5,6,9,10] [] [0,1,4,5,6] [] (sp18 full defs) := by
  intro vs bs H k out ho
  unfold sp18 at ho
  split at ho
  case h_2 => simp at ho
  rename_i x nm r i c z
  rw [Bool.cond_eq_ite] at ho
  split at ho
  case isFalse => simp at ho
  rename_i hc
  obtain ⟨rfl, hr, hcc, rfl, rfl, hR, hC, hs⟩ := of_tst hc
  generalize decL decS r = R at *
  generalize decL decS c = C at *
  subst hr hcc
  refine ⟨_, _, _, _, _, _, .refl _, ⟨C.length + 1, fun D k => ?_⟩, .refl _, ho⟩
  refine runs_on (S := fun m => stL 98 [0,1,5,6,9,10] [encDefs full defs, .str nm, encSs false R, .int .i64 i, encSs false C, .int .i64 (m : Nat)] [] [] H D) (n := C.length) (fun m k hm => ?_) (fun k => ?_) (by simp) k C.length 0 (by omega)
  · have e := hs (C.getD m []) (by rw [List.getD_eq_getElem?_getD, List.getElem?_eq_getElem hm]; exact List.getElem_mem hm)
    rw [step18, decS_enc, decide_eq_true (show (m : Int) < C.length by omega), wrap_add1 (by omega), Int.toNat_natCast, tst_true (p := encDefs full defs = encDefs full defs) rfl, tst_true ⟨rfl, hR⟩]
    generalize C.getD m [] = c at e
    unfold hasN at e
    cases ht : thD defs c with
    | false => rfl
    | true => rw [e ht]; rfl
  · rw [step18, decide_eq_false (by omega)]; rfl
theorem sp8_ok : SpOK (t8 d full defs) 98 [0,1,5,6,7] [] [0,1,4,5,6] [] sp8 := by
  intro vs bs H k out ho
  unfold sp8 at ho
  split at ho
  case h_2 => simp at ho
  rename_i x nm r i z
  rw [Bool.cond_eq_ite] at ho
  split at ho
  case isFalse => simp at ho
  rename_i hc
  obtain ⟨hr, hnd, rfl, rfl, hi, hiR, hR⟩ := of_tst hc
  generalize decL decS r = R at *
  generalize i.toNat = j at *
  subst hr hi
  refine ⟨_, _, _, _, _, _, .refl _, ⟨j + 1, fun D k => ?_⟩, .refl _, ho⟩
  refine runs_on (S := fun m => stL 98 [0,1,5,6,7] [x, .str nm, encSs false R, .int .i64 (j : Nat), .int .i64 (m : Nat)] [] [] H D) (n := j) (fun m k hm => ?_) (fun k => ?_) (by simp) k j 0 (by omega)
  · rw [step8, decide_eq_true (show (m : Int) < j by omega), decide_eq_true (show (j : Int) < R.length by omega), decide_eq_true (show (m : Int) < R.length by omega), wrap_add1 (by omega), Int.toNat_natCast, Int.toNat_natCast]
    have e : (R.getD j [] == R.getD m []) = false := by
      rw [beq_eq_false_iff_ne]
      simp only [List.getD_eq_getElem?_getD, List.getElem?_eq_getElem hiR, List.getElem?_eq_getElem (show m < R.length by omega), Option.getD_some]
      intro e
      have := (List.getElem_inj hnd).1 e
      omega
    rw [e]; rfl
  · rw [step8, decide_eq_false (by omega)]; rfl
theorem sp13_ok : SpOK (t13 d full defs) 98 [0,1,5,6,8] [] [0,1,4,5,6] [] (sp13 d full defs) := by
  intro vs bs H k out ho
  unfold sp13 at ho
  split at ho
  case h_2 => simp at ho
  rename_i x nm r i z
  rw [Bool.cond_eq_ite] at ho
  split at ho
  case isFalse => simp at ho
  rename_i hc
  obtain ⟨rfl, hr, hok, rfl, rfl, hi, hiR, hR, hd, hw⟩ := of_tst hc
  generalize decL decS r = R at *
  generalize i.toNat = j at *
  subst hr hi
  refine ⟨_, _, _, _, _, _, .refl _, ⟨defs.length + 1, fun D k => ?_⟩, .refl _, ho⟩
  refine runs_first (S := fun m => stL 98 [0,1,5,6,8] [encDefs full defs, .str nm, encSs false R, .int .i64 (j : Nat), .int .i64 (m : Nat)] [] [] H D) (hit := fun m => isNm (R.getD j []) (defs.getD m def0)) (n := defs.length) (fun m k hm hf => ?_) (fun k => ?_) (by simp) k defs.length 0 (by omega) (fun j hj => by omega)
  · rw [step13, decide_eq_true (show (m : Int) < defs.length by omega), decide_eq_true (show (j : Int) < R.length by omega), wrap_add1 (by omega), Int.toNat_natCast, Int.toNat_natCast, decS_enc, decS_enc]
    cases hh : isNm (R.getD j []) (defs.getD m def0) with
    | false =>
      have : ((defs.getD m def0).name == R.getD j []) = false := hh
      rw [this]; rfl
    | true =>
      have e1 : ((defs.getD m def0).name == R.getD j []) = true := hh
      have em : defs.getD m def0 ∈ defs := by rw [List.getD_eq_getElem?_getD, List.getElem?_eq_getElem hm]; exact List.getElem_mem hm
      have eR : R.getD j [] ∈ R := by rw [List.getD_eq_getElem?_getD, List.getElem?_eq_getElem hiR]; exact List.getElem_mem hiR
      have eb : bdm defs m = (defs.getD m def0).body := by unfold bdm; rw [Int.toNat_natCast]
      have ei : defs.findIdx (isNm (R.getD j [])) = m := by
        refine (List.findIdx_eq hm).2 ⟨?_, fun q hq => ?_⟩
        · rw [show defs[m] = defs.getD m def0 by simp [List.getD_eq_getElem?_getD, List.getElem?_eq_getElem hm]]
          exact hh
        · have hq' : q < defs.length := by omega
          rw [show defs[q] = defs.getD q def0 by simp [List.getD_eq_getElem?_getD, List.getElem?_eq_getElem hq']]
          exact hf q hq
      have ec : callsV d (bdm defs m) [] = clD d defs (R.getD j []) := by
        unfold clD
        rw [ei, eb]
      have hsub : subC defs (clD d defs (R.getD j [])) R := fun c hc ht => hok _ eR c hc ht
      have hl : (clD d defs (R.getD j [])).length ≤ 1099511627776 := by
        have := callsV_len d (bdm defs m) []
        rw [ec, eb] at this
        have := (hw _ em).2
        simp only [List.length_nil] at *
        omega
      rw [e1, ec, eb, tst_true (hw _ em), tst_true ⟨rfl, rfl, rfl, rfl, rfl, hR, hl, hsub⟩]
      rfl
  · rw [step13, decide_eq_false (by omega)]; rfl
theorem sp5_ok : SpOK (t5 d full defs) 98 [0,1,5,6] [] [0,1,4,5] [] (sp5 d full defs) := by
  intro vs bs H k out ho
  unfold sp5 at ho
  split at ho
  case h_2 => simp at ho
  rename_i x nm r z
  rw [Bool.cond_eq_ite] at ho
  split at ho
  case isFalse => simp at ho
  rename_i hc
  obtain ⟨rfl, hr, hnd, hok, rfl, rfl, hR, hd⟩ := of_tst hc
  generalize decL decS r = R at *
  subst hr
  refine ⟨_, _, _, _, _, _, .refl _, ⟨R.length + 1, fun D k => ?_⟩, .refl _, ho⟩
  refine runs_on (S := fun m => stL 98 [0,1,5,6] [encDefs full defs, .str nm, encSs false R, .int .i64 (m : Nat)] [] [] H D) (n := R.length) (fun m k hm => ?_) (fun k => ?_) (by simp) k R.length 0 (by omega)
  · rw [step5, decS_enc, decide_eq_true (show (m : Int) < R.length by omega), wrap_add1 (by omega), Int.toNat_natCast, tst_true ⟨rfl, hnd, rfl, rfl, rfl, hm, hR⟩, tst_true ⟨rfl, rfl, hok, rfl, rfl, rfl, hm, hR, hd⟩]
    rfl
  · rw [step5, decide_eq_false (by omega)]; rfl
theorem lawR_loops (hok : okDefsD d defs) : LOk Try.prog (lawFH5 d full defs) (codeOf Try.prog rF) := by
  have hL := layL0_ok (full := full) hok.1 hok.2
  have f18 : (lawFH5 d full defs).loops (firstRegion (loopAt 18 (codeOf Try.prog rF))) = some (loopSpec 98 [0,1,5,6,9,10] [] [0,1,4,5,6] [] (sp18 full defs)) := by kernel_rfl
  have f8 : (lawFH5 d full defs).loops (firstRegion (loopAt 8 (codeOf Try.prog rF))) = some (loopSpec 98 [0,1,5,6,7] [] [0,1,4,5,6] [] sp8) := by kernel_rfl
  have f13 : (lawFH5 d full defs).loops (firstRegion (loopAt 13 (codeOf Try.prog rF))) = some (loopSpec 98 [0,1,5,6,8] [] [0,1,4,5,6] [] (sp13 d full defs)) := by kernel_rfl
  have f5 : (lawFH5 d full defs).loops (firstRegion (loopAt 5 (codeOf Try.prog rF))) = some (loopSpec 98 [0,1,5,6] [] [0,1,4,5] [] (sp5 d full defs)) := by kernel_rfl
  have e : loopsIn (codeOf Try.prog rF) = [loopAt 5 (codeOf Try.prog rF), loopAt 8 (codeOf Try.prog rF), loopAt 13 (codeOf Try.prog rF), loopAt 18 (codeOf Try.prog rF)] := by kernel_rfl
  have e18 : loopsIn (loopAt 18 (codeOf Try.prog rF)) = [] := by kernel_rfl
  have e8 : loopsIn (loopAt 8 (codeOf Try.prog rF)) = [] := by kernel_rfl
  have e13 : loopsIn (loopAt 13 (codeOf Try.prog rF)) = [loopAt 18 (codeOf Try.prog rF)] := by kernel_rfl
  have e5 : loopsIn (loopAt 5 (codeOf Try.prog rF)) = [loopAt 8 (codeOf Try.prog rF), loopAt 13 (codeOf Try.prog rF), loopAt 18 (codeOf Try.prog rF)] := by kernel_rfl
  have g18 : ∀ sp, (lawFH5 d full defs).loops (firstRegion (loopAt 18 (codeOf Try.prog rF))) = some sp → LoopTold Try.prog (loopAt 18 (codeOf Try.prog rF)) sp := fun sp hsp => by
    rw [f18, Option.some.injEq] at hsp
    subst hsp; exact hL.told (LOk.of _ (fun d hd => by rw [e18] at hd; cases hd)) (sp18_ok d full defs)
  have g8 : ∀ sp, (lawFH5 d full defs).loops (firstRegion (loopAt 8 (codeOf Try.prog rF))) = some sp → LoopTold Try.prog (loopAt 8 (codeOf Try.prog rF)) sp := fun sp hsp => by
    rw [f8, Option.some.injEq] at hsp
    subst hsp; exact hL.told (LOk.of _ (fun d hd => by rw [e8] at hd; cases hd)) (sp8_ok d full defs)
  have g13 : ∀ sp, (lawFH5 d full defs).loops (firstRegion (loopAt 13 (codeOf Try.prog rF))) = some sp → LoopTold Try.prog (loopAt 13 (codeOf Try.prog rF)) sp := fun sp hsp => by
    rw [f13, Option.some.injEq] at hsp
    subst hsp; exact hL.told (LOk.of _ (fun d hd sp hsp => by
      rw [e13, List.mem_singleton] at hd
      subst hd; exact g18 sp hsp)) (sp13_ok d full defs)
  have g5 : ∀ sp, (lawFH5 d full defs).loops (firstRegion (loopAt 5 (codeOf Try.prog rF))) = some sp → LoopTold Try.prog (loopAt 5 (codeOf Try.prog rF)) sp := fun sp hsp => by
    rw [f5, Option.some.injEq] at hsp
    subst hsp; exact hL.told (LOk.of _ (fun d hd sp hsp => by
      rw [e5, List.mem_cons, List.mem_cons, List.mem_singleton] at hd
      rcases hd with rfl | rfl | rfl
      · exact g8 sp hsp
      · exact g13 sp hsp
      · exact g18 sp hsp)) (sp5_ok d full defs)
  refine LOk.of _ (fun d hd sp hsp => ?_)
  rw [e, List.mem_cons, List.mem_cons, List.mem_cons, List.mem_singleton] at hd
  rcases hd with rfl | rfl | rfl | rfl
  · exact g5 sp hsp
  · exact g8 sp hsp
  · exact g13 sp hsp
  · exact g18 sp hsp
noncomputable def layLR : Lay := (layL0 d full defs).addL rF (lawFH5 d full defs)
theorem layLR_ok (hok : okDefsD d defs) : (layLR d full defs).OK Try.prog := (layL0_ok hok.1 hok.2).addL (lawR_loops d full defs hok)
end
end Go.Mu
