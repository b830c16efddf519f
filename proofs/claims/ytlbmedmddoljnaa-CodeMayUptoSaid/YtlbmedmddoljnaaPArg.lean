/-
  Pipelines as data; what pipes.argMay and muslinref19.argMay tell.
-/
import Derived.Test.YtlbmedmddoljnaaPName
set_option linter.unusedVariables false
set_option linter.unusedSimpArgs false
set_option maxRecDepth 100000
namespace Go.Mu
open Go Go.Proofs

def big : Nat := 1099511627776
def wfStr (r : List AVal) : Bool := match r with
  | [.str s] => decide (s.length ≤ 1099511627776)
  | _ => false
theorem wfStr_sub (r : List AVal) (h : wfStr r = true) : SubL r (encS (decS r)) := by
  unfold wfStr at h
  split at h
  · exact .refl _
  · simp at h
structure ArgD where
  kind : Int
  name : List UInt8
  pf : Bool
  path : List (List UInt8)
  int : Int
  text : List UInt8
instance : Inhabited ArgD := ⟨⟨0, [], true, [], 0, []⟩⟩
def argD0 : ArgD := ⟨0, [], true, [], 0, []⟩
def encArg (a : ArgD) : List AVal := [.int .i64 a.kind, .str a.name, encL a.pf encS [] a.path, .int .i64 a.int, .str a.text]
def decArg (r : List AVal) : ArgD := ⟨intOf (r.getD 0 .undef), strOf (r.getD 1 .undef), fullOf (r.getD 2 .undef), decL decS (r.getD 2 .undef), intOf (r.getD 3 .undef), strOf (r.getD 4 .undef)⟩
def wfArg (r : List AVal) : Bool := match r with
  | [.int .i64 _, .str s, p, .int .i64 _, .str t] => wfL wfStr p && decide (lenL p ≤ 1099511627776) && decide (s.length ≤ 1099511627776) && decide (t.length ≤ 1099511627776)
  | _ => false
theorem wfArg_sub (r : List AVal) (h : wfArg r = true) : SubL r (encArg (decArg r)) := by
  unfold wfArg at h
  split at h
  · rename_i k s p n t
    simp only [Bool.and_eq_true] at h
    exact .cons (.refl _) (.cons (.refl _) (.cons (sub_encL h.1.1.1 wfStr_sub) (.cons (.refl _) (.cons (.refl _) .nil))))
  · simp at h
theorem decArg_enc (a : ArgD) : decArg (encArg a) = a := by
  cases a
  simp only [decArg, encArg, List.getD_cons_zero, List.getD_cons_succ, intOf, strOf, fullOf]
  rw [decL_encL (g := decS) (f := encS) (fun s => rfl)]
/-- lengths that fit -/
def okArg (a : ArgD) : Prop := a.path.length ≤ 1099511627776 ∧ (∀ s ∈ a.path, s.length ≤ 1099511627776) ∧ a.name.length ≤ 1099511627776 ∧ a.text.length ≤ 1099511627776
theorem wfL_of {α : Type} {w : List AVal → Bool} {f : α → List AVal} {d : α} {full : Bool} {l : List α} (h : ∀ a ∈ l, w (f a) = true) : wfL w (encL full f d l) = true := by
  simp only [wfL, List.all_eq_true, List.mem_range]
  intro i hi
  refine h _ ?_
  rw [List.getD_eq_getElem?_getD, List.getElem?_eq_getElem hi]
  exact List.getElem_mem hi
theorem wfArg_enc {a : ArgD} (h : okArg a) : wfArg (encArg a) = true := by
  obtain ⟨h1, h2, h3, h4⟩ := h
  simp only [wfArg, encArg, Bool.and_eq_true, decide_eq_true_eq]
  exact ⟨⟨⟨wfL_of (fun s hs => by simp only [wfStr, encS]; exact decide_eq_true (h2 s hs)), h1⟩, h3⟩, h4⟩

/- what is told so far -/
def oNameTold : FSp := fun xs H k => match xs, H with
  | [.str s], [] => k (.ret (.bool (nameB s)) [])
  | _, _ => none
def rNameTold : FSp := fun xs H k => match xs, H with
  | [.str s], [] => cond (decide (s.length ≤ 4611686018427387903)) (k (.ret (.bool (nameB s)) [])) none
  | _, _ => none
theorem oNameTold_ok (xs : List AVal) (H : Heap) (k : Out → Ans) (out : Out) (ho : oNameTold xs H k = some out) : ∃ o, CallOK Try.prog 111 xs H o ∧ k o = some out := by
  unfold oNameTold at ho
  split at ho
  · exact ⟨_, layB_ok.call (oName_call _), ho⟩
  · simp at ho
theorem rNameTold_ok (xs : List AVal) (H : Heap) (k : Out → Ans) (out : Out) (ho : rNameTold xs H k = some out) : ∃ o, CallOK Try.prog 83 xs H o ∧ k o = some out := by
  unfold rNameTold at ho
  split at ho
  · rw [Bool.cond_eq_ite] at ho
    split at ho
    · rename_i hs; exact ⟨_, layB_ok.call (rName_call _ (of_decide_eq_true hs)), ho⟩
    · simp at ho
  · simp at ho
def layC : Lay := (layB.addF 111 oNameTold).addF 83 rNameTold
theorem layC_ok : layC.OK Try.prog := (layB_ok.addF oNameTold_ok).addF rNameTold_ok

/- paths -/
def sIdxFH : FH := .of [(2, loopSpec 19 [0,1,7,8] [] [4] [] (idxSp wfStr decS (fun s => !nameB s) 110))]
theorem sIdx_step (full : Bool) (l : List (List UInt8)) (i : Nat) (H : Heap) (D : List (FuncId × List AVal)) (k : Kont) : lturn Try.prog layC sIdxFH 115 2 [0,1,7,8] [] [4] [] (stL 19 [0,1,7,8] [encL full encS [] l, .func 110 [], .int .i64 l.length, .int .i64 i] [] [] H D) k =
    cond (decide ((i : Int) < l.length)) (cond (decide ((i : Int) < l.length)) (cond (!nameB (l.getD (i : Int).toNat [])) (k .ret (stL 19 [4] [.int .i64 i] [] [] H D)) (k .normal (stL 19 [0,1,7,8] [encL full encS [] l, .func 110 [], .int .i64 l.length, .int .i64 (IntKind.i64.wrap ((i : Int) + 1))] [] [] H D))) none)
      (k (.exit 0) (stL 19 [4] [.undef] [] [] H D)) := by kernel_rfl
def layD : Lay := layC.addL 115 sIdxFH
theorem layD_ok : layD.OK Try.prog := layC_ok.loop1 (id := 2) (by kernel_rfl) (by kernel_rfl) (by kernel_rfl) (idxSp_ok (p := fun s => !nameB s) wfStr_sub sIdx_step)
def pBad (a : ArgD) : Bool := a.path.any (fun s => !nameB s)
def pArgT (a : ArgD) : Bool := cond (cond (cond (cond (cond (cond (decide (a.kind ≥ 1)) (decide (a.kind ≤ 7)) false) (cond (cond (a.kind == 2) (cond (a.name == []) true (nameB a.name)) false) true (a.name == [])) false) (cond (decide (a.kind ≤ 2)) true ((a.path.length : Int) == 0)) false)
   (cond (a.kind == 3) true (a.int == 0)) false) (cond (a.kind == 4) true (a.text == [])) false) (decide ((a.text.length : Int) ≤ 4096)) false
/-- may an argument be? -/
def argB (a : ArgD) : Bool := !pBad a && decide (a.path.length ≤ 16) && pArgT a
theorem pArg_fun (a : ArgD) (k : Out → Ans) : iFun Try.prog (layD.hd Try.prog) layD.fhs 0 99 [.agg (encArg a)] [] k =
    cond (wfL wfStr (encL a.pf encS [] a.path) && true && ((a.path.length : Int) == (a.path.length : Int)) && true && decide (a.path.length ≤ 1099511627776) && true)
      (cond ((decL decS (encL a.pf encS [] a.path)).any (fun s => !nameB s)) (k (.ret (.bool false) []))
        (cond (decide ((a.path.length : Int) > 16)) (k (.ret (.bool false) [])) (k (.ret (.bool (pArgT a)) [])))) none := by kernel_rfl
theorem pArg_call {a : ArgD} (h : okArg a) (k : Out → Ans) : iFun Try.prog (layD.hd Try.prog) layD.fhs 0 99 [.agg (encArg a)] [] k = k (.ret (.bool (argB a)) []) := by
  rw [pArg_fun, decL_encL (g := decS) (f := encS) (fun s => rfl), wfL_of (fun s hs => by simp only [wfStr, encS]; exact decide_eq_true (h.2.1 s hs)), decide_eq_true h.1]
  unfold argB pBad
  simp only [beq_self_eq_true, Bool.and_self, cond_true]
  cases a.path.any (fun s => !nameB s) with
  | true => rfl
  | false =>
    by_cases hl : a.path.length ≤ 16
    · rw [decide_eq_false (show ¬ ((a.path.length : Int) > 16) by omega), decide_eq_true hl]; rfl
    · rw [decide_eq_true (show (a.path.length : Int) > 16 by omega), decide_eq_false hl]; rfl
noncomputable def rArgSp : LSp := fun vs bs H k => match vs, bs with
  | [.ptr (.tmp 1) 0, .int .i64 z], [c] => cond (z == 0 && tst (c = encArg (decArg c) ∧ okArg (decArg c))) (cond (pBad (decArg c)) (k .ret [.ptr (.tmp 1) 0, .bool false] [c] H) (k (.exit 0) [.ptr (.tmp 1) 0, .undef] [c] H)) none
  | _, _ => none
noncomputable def rArgFH : FH := .of [(2, loopSpec 80 [1,3] [1] [1,2] [1] rArgSp)]
noncomputable abbrev rArgTurn := lturn Try.prog layD rArgFH 77 2 [1,3] [1] [1,2] [1]
theorem rArg_step (a : ArgD) (i : Nat) (H : Heap) (D : List (FuncId × List AVal)) (k : Kont) : rArgTurn (stL 80 [1,3] [.ptr (.tmp 1) 0, .int .i64 i] [1] [encArg a] H D) k =
    cond (decide ((i : Int) < a.path.length)) (cond (decide ((i : Int) < a.path.length)) (cond (decide ((a.path.getD (i : Int).toNat []).length ≤ 4611686018427387903))
      (cond (!nameB (a.path.getD (i : Int).toNat [])) (k .ret (stL 80 [1,2] [.ptr (.tmp 1) 0, .bool false] [1] [encArg a] H D)) (k .normal (stL 80 [1,3] [.ptr (.tmp 1) 0, .int .i64 (IntKind.i64.wrap ((i : Int) + 1))] [1] [encArg a] H D))) none) none)
      (k (.exit 0) (stL 80 [1,2] [.ptr (.tmp 1) 0, .undef] [1] [encArg a] H D)) := by kernel_rfl
theorem rArgSp_ok : SpOK rArgTurn 80 [1,3] [1] [1,2] [1] rArgSp := by
  intro vs bs H k out ho
  unfold rArgSp at ho
  split at ho
  case h_2 => simp at ho
  rename_i z c
  rw [Bool.cond_eq_ite] at ho
  split at ho
  case isFalse => simp at ho
  rename_i hc
  simp only [Bool.and_eq_true, beq_iff_eq] at hc
  obtain ⟨rfl, hc⟩ := hc
  obtain ⟨hce, hk⟩ := of_tst hc
  generalize decArg c = a at hce hk ho
  subst hce
  have hrun := fun D k => search_any (turn := rArgTurn) (S := fun i => stL 80 [1,3] [.ptr (.tmp 1) 0, .int .i64 (i : Nat)] [1] [encArg a] H D) (hit := fun i => !nameB (a.path.getD i [])) (n := a.path.length) (e0 := .exit 0) (e1 := .ret) (R0 := stL 80 [1,2] [.ptr (.tmp 1) 0, .undef] [1] [encArg a] H D) (R1 := stL 80 [1,2] [.ptr (.tmp 1) 0, .bool false] [1] [encArg a] H D)
    (fun i k hi => by
      have := hk.1
      rw [rArg_step, decide_eq_true (show (i : Int) < a.path.length by omega), wrap_add1 (by omega)]
      have h2 : (a.path.getD i []).length ≤ 4611686018427387903 := by
        have := hk.2.1 (a.path.getD i []) (by rw [List.getD_eq_getElem?_getD, List.getElem?_eq_getElem hi]; exact List.getElem_mem hi)
        omega
      rw [Int.toNat_natCast, decide_eq_true h2]; rfl) (fun k => by rw [rArg_step, decide_eq_false (by omega)]; rfl) (by simp) (by simp) k
  have ea : (List.range a.path.length).any (fun i => !nameB (a.path.getD i [])) = pBad a := any_getD (fun s => !nameB s) a.path []
  rw [ea] at hrun
  cases ha : pBad a with
  | true =>
    rw [ha] at ho
    exact ⟨_, _, _, _, _, _, .refl _, ⟨_, fun D k => (hrun D k).trans (by rw [ha]; rfl)⟩, .refl _, ho⟩
  | false =>
    rw [ha] at ho
    exact ⟨_, _, _, _, _, _, .refl _, ⟨_, fun D k => (hrun D k).trans (by rw [ha]; rfl)⟩, .refl _, ho⟩
noncomputable def layE : Lay := layD.addL 77 rArgFH
theorem layE_ok : layE.OK Try.prog := layD_ok.loop1 (id := 2) (by kernel_rfl) (by kernel_rfl) (by kernel_rfl) rArgSp_ok
theorem rArg_fun (a : ArgD) (k : Out → Ans) : iFun Try.prog (layE.hd Try.prog) layE.fhs 0 77 [.agg (encArg a)] [] k =
    cond (tst (encArg a = encArg (decArg (encArg a)) ∧ okArg (decArg (encArg a)))) (cond (pBad (decArg (encArg a))) (k (.ret (.bool false) []))
      (cond (cond (cond (cond (decide (a.kind < 1)) true (decide (a.kind > 7))) true (decide ((a.path.length : Int) > 16))) true (decide ((a.text.length : Int) > 4096))) (k (.ret (.bool false) []))
        (cond (cond (cond (cond (decide (a.kind > 2)) (decide ((a.path.length : Int) > 0)) false) true (cond (a.kind != 3) (a.int != 0) false)) true (cond (a.kind != 4) (!(a.text == [])) false)) (k (.ret (.bool false) []))
          (cond (decide (a.name.length ≤ 4611686018427387903)) (k (.ret (.bool (cond (a.name == []) true (cond (a.kind == 2) (nameB a.name) false))) [])) none)))) none := by kernel_rfl
theorem rArg_call {a : ArgD} (h : okArg a) (k : Out → Ans) : iFun Try.prog (layE.hd Try.prog) layE.fhs 0 77 [.agg (encArg a)] [] k = k (.ret (.bool (argB a)) []) := by
  have h3 := h.2.2.1
  rw [rArg_fun, decArg_enc, tst_true ⟨rfl, h⟩, decide_eq_true (show a.name.length ≤ 4611686018427387903 by omega)]
  unfold argB pArgT
  have e1 : decide ((a.path.length : Int) > 16) = !decide (a.path.length ≤ 16) := by rw [Bool.eq_iff_iff]; simp; omega
  have e2 : decide ((a.text.length : Int) > 4096) = !decide ((a.text.length : Int) ≤ 4096) := by rw [Bool.eq_iff_iff]; simp
  have e3 : decide ((a.path.length : Int) > 0) = !((a.path.length : Int) == 0) := by
    cases a.path.length with
    | zero => rfl
    | succ n => rw [decide_eq_true (show ((n + 1 : Nat) : Int) > 0 by omega), show (((n + 1 : Nat) : Int) == 0) = false from beq_false_of_ne (by omega)]; rfl
  have e4 : (a.int != 0) = !(a.int == 0) := rfl
  rw [e1, e2, e3, e4]
  generalize pBad a = b1
  generalize decide (a.path.length ≤ 16) = b2
  generalize decide ((a.text.length : Int) ≤ 4096) = b3
  generalize ((a.path.length : Int) == 0) = b4
  generalize (a.int == 0) = b5
  generalize (a.text == []) = b6
  generalize (a.name == []) = b7
  generalize nameB a.name = b8
  generalize a.kind = n
  by_cases l : n < 1
  · rw [decide_eq_true l, decide_eq_false (show ¬ n ≥ 1 by omega)]
    cases b1 <;> cases b2 <;> rfl
  · by_cases g : n > 7
    · rw [decide_eq_false l, decide_eq_true g, decide_eq_true (show n ≥ 1 by omega), decide_eq_false (show ¬ n ≤ 7 by omega)]
      cases b1 <;> cases b2 <;> rfl
    · have : n = 1 ∨ n = 2 ∨ n = 3 ∨ n = 4 ∨ n = 5 ∨ n = 6 ∨ n = 7 := by omega
      rcases this with rfl | rfl | rfl | rfl | rfl | rfl | rfl <;> cases b1 <;> cases b2 <;> cases b3 <;> cases b4 <;> cases b5 <;> cases b6 <;> cases b7 <;> cases b8 <;> rfl
end Go.Mu
