/-
  What parse.Depth and exec.Check tell.
-/
import Derived.Test.YtlbmedmddoljnaaWMay
set_option linter.unusedVariables false
set_option linter.unusedSimpArgs false
set_option maxRecDepth 100000
namespace Go.Mu
open Go Go.Proofs
def mxI (x y : Int) : Int := if y > x then y else x
def depV : Nat → AVal → Int
  | 0, _ => 0
  | d + 1, x => (nodesE x).foldl (fun a n => mxI a (IntKind.i64.wrap (1 + mxI (depV d n.body) (depV d n.els)))) 0
noncomputable def depTold (d : Nat) : FSp := fun xs H k => match xs, H with
  | [x], [] => cond (tst (wfW d x)) (k (.ret (.int .i64 (depV d x)) [])) none
  | _, _ => none
noncomputable def layDp (d : Nat) : Lay := Lay.nil.addF 28 (depTold d)
noncomputable def dpSp (d : Nat) : LSp := fun vs bs H k => match vs with
  | [.int .i64 a, x, .int .i64 n, .int .i64 z] => cond (tst (wfW (d + 1) x ∧ a = 0 ∧ n = (lenL x : Int) ∧ z = 0 ∧ bs = []))
      (k (.exit 0) [.int .i64 (depV (d + 1) x)] [] H) none
  | _ => none
noncomputable def dpFH (d : Nat) : FH := .of [(3, loopSpec 24 [3,6,7,8] [] [3] [] (dpSp d))]
noncomputable abbrev dpTurn (d : Nat) := lturn Try.prog (layDp d) (dpFH d) 28 3 [3,6,7,8] [] [3] []
abbrev dpSt (a : Int) (full : Bool) (l : List NdE) (i : Int) (H : Heap) (D : List (FuncId × List AVal)) : St := stL 24 [3,6,7,8] [.int .i64 a, encNes full l, .int .i64 l.length, .int .i64 i] [] [] H D
theorem dp_step0 (d : Nat) (a : Int) (full : Bool) (l : List NdE) (i : Nat) (H : Heap) (D : List (FuncId × List AVal)) (k : Kont) : dpTurn d (dpSt a full l i H D) k =
    cond (decide ((i : Int) < l.length)) (cond (decide ((i : Int) < l.length)) (cond (tst (wfW d (l.getD (i : Int).toNat ne0).body)) (cond (tst (wfW d (l.getD (i : Int).toNat ne0).els))
      (k .normal (dpSt (mxI a (IntKind.i64.wrap (1 + mxI (depV d (l.getD (i : Int).toNat ne0).body) (depV d (l.getD (i : Int).toNat ne0).els)))) full l (IntKind.i64.wrap ((i : Int) + 1)) H D)) none) none) none)
      (k (.exit 0) (stL 24 [3] [.int .i64 a] [] [] H D)) := by kernel_rfl
theorem dp_run {d : Nat} {full : Bool} {l : List NdE} (H : Heap) (D : List (FuncId × List AVal)) (k : Kont) (hl : l.length ≤ 1073741824) (hw : ∀ n ∈ l, okCs n.pipe ∧ wfW d n.body ∧ wfW d n.els) : ∀ (m i : Nat) (a : Int), i + m = l.length →
    rounds (dpTurn d) (m + 1) (dpSt a full l i H D) k = k (.exit 0) (stL 24 [3] [.int .i64 ((l.drop i).foldl (fun a n => mxI a (IntKind.i64.wrap (1 + mxI (depV d n.body) (depV d n.els)))) a)] [] [] H D)
  | 0, i, a, he => by
    obtain rfl : i = l.length := by omega
    rw [rounds_succ', dp_step0, decide_eq_false (by omega), List.drop_length]
    rfl
  | m + 1, i, a, he => by
    have hi : i < l.length := by omega
    have e1 : l.getD i ne0 = l[i] := by simp [List.getD_eq_getElem?_getD, List.getElem?_eq_getElem hi]
    have hm := hw _ (List.getElem_mem hi)
    rw [← e1] at hm
    rw [List.drop_eq_getElem_cons hi, ← e1, List.foldl_cons, rounds_succ', dp_step0, decide_eq_true (show (i : Int) < l.length by omega), wrap_add1 (by omega), Int.toNat_natCast, tst_true hm.2.1, tst_true hm.2.2]
    exact dp_run H D k hl hw m (i + 1) _ (by omega)
theorem dpSp_ok (d : Nat) : SpOK (dpTurn d) 24 [3,6,7,8] [] [3] [] (dpSp d) := by
  intro vs bs H k out ho
  unfold dpSp at ho
  split at ho
  case h_2 => simp at ho
  rename_i a x n z
  rw [Bool.cond_eq_ite] at ho
  split at ho
  case isFalse => simp at ho
  rename_i hc
  obtain ⟨⟨hx, hl, hw⟩, rfl, rfl, rfl, rfl⟩ := of_tst hc
  have hl2 : (nodesE x).length = lenL x := lenL_decL (g := decNe) hx
  have hs : SubT x (encNes (fullOf x) (nodesE x)) := subT_encL hx wfNe_sub
  unfold depV at ho
  rw [← hl2] at hl ⊢
  generalize nodesE x = l at *
  have hrun : ∀ D k, rounds (dpTurn d) (l.length + 1) (dpSt 0 (fullOf x) l 0 H D) k = k (.exit 0) (stL 24 [3] [.int .i64 (l.foldl (fun a n => mxI a (IntKind.i64.wrap (1 + mxI (depV d n.body) (depV d n.els)))) 0)] [] [] H D) := fun D k => by
    have := dp_run (full := fullOf x) H D k hl hw l.length 0 0 (by omega)
    simpa using this
  exact ⟨_, _, _, _, _, _, .cons (.refl _) (.cons hs (.refl _)), ⟨_, fun D k => hrun D k⟩, .refl _, ho⟩
noncomputable def layDp1 (d : Nat) : Lay := (layDp d).addL 28 (dpFH d)
theorem dp_fun (d : Nat) (full : Bool) (l : List NdE) (k : Out → Ans) : iFun Try.prog ((layDp1 d).hd Try.prog) (layDp1 d).fhs 0 28 [encNes full l] [] k =
    cond (tst (wfW (d + 1) (encNes full l) ∧ (0 : Int) = 0 ∧ (l.length : Int) = (lenL (encNes full l) : Int) ∧ (0 : Int) = 0 ∧ ([] : List (List AVal)) = [])) (k (.ret (.int .i64 (depV (d + 1) (encNes full l))) [])) none := by kernel_rfl
theorem wfW_enc {d : Nat} {x : AVal} (hw : wfW (d + 1) x) : wfW (d + 1) (encNes (fullOf x) (nodesE x)) := by
  have e1 : nodesE (encNes (fullOf x) (nodesE x)) = nodesE x := nodesE_enc _ _
  have hl2 : (nodesE x).length = lenL x := lenL_decL (g := decNe) hw.1
  refine ⟨?_, ?_, by rw [e1]; exact hw.2.2⟩
  · have hw3 := hw.2.2
    generalize nodesE x = l at hw3
    simp only [wfL, List.all_eq_true, List.mem_range]
    intro i hi
    refine wfNe_enc (hw3 _ ?_).1
    rw [List.getD_eq_getElem?_getD, List.getElem?_eq_getElem hi]
    exact List.getElem_mem hi
  · show (nodesE x).length ≤ _
    rw [hl2]; exact hw.2.1
theorem depTold_ok : ∀ (d : Nat) (xs : List AVal) (H : Heap) (k : Out → Ans) (out : Out), depTold d xs H k = some out → ∃ o, CallOK Try.prog 28 xs H o ∧ k o = some out
  | d, xs, H, k, out, ho => by
    unfold depTold at ho
    split at ho
    case h_2 => simp at ho
    rename_i x
    rw [Bool.cond_eq_ite] at ho
    split at ho
    case isFalse => simp at ho
    rename_i hc
    have hw := of_tst hc
    cases d with
    | zero => exact hw.elim
    | succ d =>
      have hL : (layDp d).OK Try.prog := Lay.nil_ok.addF (depTold_ok d)
      have hL1 : (layDp1 d).OK Try.prog := hL.loop1 (id := 3) (by kernel_rfl) (by kernel_rfl) (by kernel_rfl) (dpSp_ok d)
      have hs : Sub x (encNes (fullOf x) (nodesE x)) := sub_encL hw.1 wfNe_sub
      have e1 : nodesE (encNes (fullOf x) (nodesE x)) = nodesE x := nodesE_enc _ _
      have e2 : depV (d + 1) (encNes (fullOf x) (nodesE x)) = depV (d + 1) x := by unfold depV; rw [e1]
      refine ⟨_, (hL1.call (o := .ret (.int .i64 (depV (d + 1) x)) []) (fun k => ?_)).subArgs (.cons hs .nil), ho⟩
      rw [dp_fun, e2, tst_true ⟨wfW_enc hw, rfl, rfl, rfl, rfl⟩]
      rfl
/- units -/
structure UnD where
  name : List UInt8
  m : Nat → AVal
  bf : Bool
  bn : Nat
  br : Nat → List AVal
def un0 : UnD := ⟨[], fun _ => .undef, true, 0, fun _ => []⟩
def UnD.body (u : UnD) : AVal := .list u.bf u.bn u.br
def encUn (u : UnD) : List AVal := [.str u.name, u.m 1, u.m 2, u.m 3, u.m 4, u.m 5, u.m 6, u.m 7, u.m 8, u.m 9, u.m 10, u.m 11, u.m 12, u.m 13, u.m 14, u.m 15, u.m 16, .list u.bf u.bn u.br]
def decUn (r : List AVal) : UnD := ⟨strOf (r.getD 0 .undef), fun j => r.getD j .undef, plF (r.getD 17 .undef), plN (r.getD 17 .undef), plR (r.getD 17 .undef)⟩
noncomputable def wfUn (r : List AVal) : Bool := tst (r = encUn (decUn r))
theorem wfUn_sub (r : List AVal) (h : wfUn r = true) : SubL r (encUn (decUn r)) := by rw [← of_tst h]; exact .refl _
abbrev encUns (full : Bool) (l : List UnD) : AVal := encL full encUn un0 l
abbrev unitsU (x : AVal) : List UnD := decL decUn x
theorem encUn_dec (u : UnD) : encUn (decUn (encUn u)) = encUn u := rfl
abbrev deep (d : Nat) (u : UnD) : Bool := decide (depV d u.body > 17)
abbrev badU (d : Nat) (m : Int) (u : UnD) : Bool := badL d m u.body
noncomputable def layXc (d : Nat) : Lay := (Lay.nil.addF 28 (depTold d)).addF 70 (cfTold d)
noncomputable def xc4Sp (d : Nat) : LSp := fun vs bs H k => match vs with
  | [.ptr (.hp 0) 0, x, .int .i64 n, .int .i64 z] => cond (tst (wfL wfUn x = true ∧ lenL x ≤ 1073741824 ∧ (∀ u ∈ unitsU x, wfW d u.body) ∧ n = (lenL x : Int) ∧ z = 0 ∧ bs = []))
      (cond ((unitsU x).any (deep d)) (k .ret [.ptr (.hp 0) 0, .int .i64 42] [] H) (k (.exit 0) [.ptr (.hp 0) 0, .undef] [] H)) none
  | _ => none
noncomputable def xcSp (d : Nat) : LSp := fun vs bs H k => match vs with
  | [.ptr (.hp 0) 0, x, .int .i64 n, .int .i64 z] => cond (tst (wfL wfUn x = true ∧ lenL x ≤ 1073741824 ∧ (∀ u ∈ unitsU x, wfW d u.body) ∧ n = (lenL x : Int) ∧ z = 0 ∧ bs = [] ∧ hOK 71 H))
      (cond ((unitsU x).any (badU d (unitsOf H))) (k .ret [.int .i64 9] [] H) (k (.exit 2) [.undef] [] H)) none
  | _ => none
noncomputable def xcFH (d : Nat) : FH := .of [(4, loopSpec 32 [1,10,11,12] [] [1,2] [] (xc4Sp d)), (10, loopSpec 32 [1,21,22,23] [] [2] [] (xcSp d))] { heap := [1] }
noncomputable abbrev xc4Turn (d : Nat) := lturn Try.prog (layXc d) (xcFH d) 37 4 [1,10,11,12] [] [1,2] []
noncomputable abbrev xcTurn (d : Nat) := lturn Try.prog (layXc d) (xcFH d) 37 10 [1,21,22,23] [] [2] []
abbrev xc4St (full : Bool) (l : List UnD) (i : Int) (H : Heap) (D : List (FuncId × List AVal)) : St := stL 32 [1,10,11,12] [.ptr (.hp 0) 0, encUns full l, .int .i64 l.length, .int .i64 i] [] [] H D
abbrev xcSt (full : Bool) (l : List UnD) (i : Int) (H : Heap) (D : List (FuncId × List AVal)) : St := stL 32 [1,21,22,23] [.ptr (.hp 0) 0, encUns full l, .int .i64 l.length, .int .i64 i] [] [] H D
theorem xc4_step0 (d : Nat) (full : Bool) (l : List UnD) (i : Nat) (H : Heap) (D : List (FuncId × List AVal)) (k : Kont) : xc4Turn d (xc4St full l i H D) k =
    cond (decide ((i : Int) < l.length)) (cond (decide ((i : Int) < l.length)) (cond (tst (wfW d (l.getD (i : Int).toNat un0).body)) (cond (decide (depV d (l.getD (i : Int).toNat un0).body > 17))
      (k .ret (stL 32 [1,2] [.ptr (.hp 0) 0, .int .i64 42] [] [] H D)) (k .normal (xc4St full l (IntKind.i64.wrap ((i : Int) + 1)) H D))) none) none)
      (k (.exit 0) (stL 32 [1,2] [.ptr (.hp 0) 0, .undef] [] [] H D)) := by kernel_rfl
theorem xc_step0 (d : Nat) (full : Bool) (l : List UnD) (i : Nat) (H : Heap) (D : List (FuncId × List AVal)) (k : Kont) : xcTurn d (xcSt full l i H D) k =
    cond (decide ((i : Int) < l.length)) (cond (decide ((i : Int) < l.length)) (cond (tst (wfW d (l.getD (i : Int).toNat un0).body ∧ hOK 71 H)) (cond (badL d (unitsOf H) (l.getD (i : Int).toNat un0).body)
      (k .ret (stL 32 [2] [.int .i64 9] [] [] H D)) (k .normal (xcSt full l (IntKind.i64.wrap ((i : Int) + 1)) H D))) none) none)
      (k (.exit 2) (stL 32 [2] [.undef] [] [] H D)) := by kernel_rfl
end Go.Mu
/-
  What exec.Check tells of units.
-/
namespace Go.Mu
open Go Go.Proofs
theorem mem_getD {α : Type} {l : List α} {i : Nat} (d : α) (hi : i < l.length) : l.getD i d ∈ l := by
  rw [List.getD_eq_getElem?_getD, List.getElem?_eq_getElem hi]; exact List.getElem_mem hi
theorem xc4Sp_ok (d : Nat) : SpOK (xc4Turn d) 32 [1,10,11,12] [] [1,2] [] (xc4Sp d) := by
  intro vs bs H k out ho
  unfold xc4Sp at ho
  split at ho
  case h_2 => simp at ho
  rename_i x n z
  rw [Bool.cond_eq_ite] at ho
  split at ho
  case isFalse => simp at ho
  rename_i hc
  obtain ⟨hx, hl, hw, rfl, rfl, rfl⟩ := of_tst hc
  have hl2 : (unitsU x).length = lenL x := lenL_decL (g := decUn) hx
  have hs : SubT x (encUns (fullOf x) (unitsU x)) := subT_encL hx wfUn_sub
  rw [← hl2] at hl ⊢
  generalize unitsU x = l at *
  have hrun : ∀ D k, rounds (xc4Turn d) (l.length + 1) (xc4St (fullOf x) l 0 H D) k = cond (l.any (deep d)) (k .ret (stL 32 [1,2] [.ptr (.hp 0) 0, .int .i64 42] [] [] H D)) (k (.exit 0) (stL 32 [1,2] [.ptr (.hp 0) 0, .undef] [] [] H D)) := by
    intro D k
    have := search_any (turn := xc4Turn d) (S := fun i => xc4St (fullOf x) l (i : Nat) H D) (hit := fun i => deep d (l.getD i un0)) (n := l.length) (e0 := .exit 0) (e1 := .ret)
      (R0 := stL 32 [1,2] [.ptr (.hp 0) 0, .undef] [] [] H D) (R1 := stL 32 [1,2] [.ptr (.hp 0) 0, .int .i64 42] [] [] H D) (fun i k hi => by
        rw [xc4_step0, decide_eq_true (show (i : Int) < l.length by omega), wrap_add1 (by omega), Int.toNat_natCast, tst_true (hw _ (mem_getD un0 hi))]; rfl) (fun k => by rw [xc4_step0, decide_eq_false (by omega)]; rfl) (by simp) (by simp) k
    rw [any_getD (deep d)] at this
    exact this
  cases ha : l.any (deep d) with
  | true =>
    rw [ha] at ho
    exact ⟨_, _, _, _, _, _, .cons (.refl _) (.cons hs (.refl _)), ⟨_, fun D k => by rw [hrun, ha]; rfl⟩, .refl _, ho⟩
  | false =>
    rw [ha] at ho
    exact ⟨_, _, _, _, _, _, .cons (.refl _) (.cons hs (.refl _)), ⟨_, fun D k => by rw [hrun, ha]; rfl⟩, .refl _, ho⟩
theorem xcSp_ok (d : Nat) : SpOK (xcTurn d) 32 [1,21,22,23] [] [2] [] (xcSp d) := by
  intro vs bs H k out ho
  unfold xcSp at ho
  split at ho
  case h_2 => simp at ho
  rename_i x n z
  rw [Bool.cond_eq_ite] at ho
  split at ho
  case isFalse => simp at ho
  rename_i hc
  obtain ⟨hx, hl, hw, rfl, rfl, rfl, hH⟩ := of_tst hc
  have hl2 : (unitsU x).length = lenL x := lenL_decL (g := decUn) hx
  have hs : SubT x (encUns (fullOf x) (unitsU x)) := subT_encL hx wfUn_sub
  rw [← hl2] at hl ⊢
  generalize unitsU x = l at *
  have hrun : ∀ D k, rounds (xcTurn d) (l.length + 1) (xcSt (fullOf x) l 0 H D) k = cond (l.any (badU d (unitsOf H))) (k .ret (stL 32 [2] [.int .i64 9] [] [] H D)) (k (.exit 2) (stL 32 [2] [.undef] [] [] H D)) := by
    intro D k
    have := search_any (turn := xcTurn d) (S := fun i => xcSt (fullOf x) l (i : Nat) H D) (hit := fun i => badU d (unitsOf H) (l.getD i un0)) (n := l.length) (e0 := .exit 2) (e1 := .ret)
      (R0 := stL 32 [2] [.undef] [] [] H D) (R1 := stL 32 [2] [.int .i64 9] [] [] H D) (fun i k hi => by
        rw [xc_step0, decide_eq_true (show (i : Int) < l.length by omega), wrap_add1 (by omega), Int.toNat_natCast, tst_true ⟨hw _ (mem_getD un0 hi), hH⟩]; rfl) (fun k => by rw [xc_step0, decide_eq_false (by omega)]; rfl) (by simp) (by simp) k
    rw [any_getD (badU d (unitsOf H))] at this
    exact this
  cases ha : l.any (badU d (unitsOf H)) with
  | true =>
    rw [ha] at ho
    exact ⟨_, _, _, _, _, _, .cons (.refl _) (.cons hs (.refl _)), ⟨_, fun D k => by rw [hrun, ha]; rfl⟩, .refl _, ho⟩
  | false =>
    rw [ha] at ho
    exact ⟨_, _, _, _, _, _, .cons (.refl _) (.cons hs (.refl _)), ⟨_, fun D k => by rw [hrun, ha]; rfl⟩, .refl _, ho⟩
theorem layXc_ok (d : Nat) : (layXc d).OK Try.prog := (Lay.nil_ok.addF (depTold_ok d)).addF (cfTold_ok d)
theorem xc_loops (d : Nat) : LOk Try.prog (xcFH d) (codeOf Try.prog 37) := by
  have f4 : (xcFH d).loops (firstRegion (loopAt 4 (codeOf Try.prog 37))) = some (loopSpec 32 [1,10,11,12] [] [1,2] [] (xc4Sp d)) := by kernel_rfl
  have f10 : (xcFH d).loops (firstRegion (loopAt 10 (codeOf Try.prog 37))) = some (loopSpec 32 [1,21,22,23] [] [2] [] (xcSp d)) := by kernel_rfl
  have e : loopsIn (codeOf Try.prog 37) = [loopAt 4 (codeOf Try.prog 37), loopAt 10 (codeOf Try.prog 37)] := by kernel_rfl
  have e4 : loopsIn (loopAt 4 (codeOf Try.prog 37)) = [] := by kernel_rfl
  have e10 : loopsIn (loopAt 10 (codeOf Try.prog 37)) = [] := by kernel_rfl
  refine LOk.of _ (fun c hd sp hsp => ?_)
  rw [e, List.mem_cons, List.mem_singleton] at hd
  rcases hd with rfl | rfl
  · rw [f4, Option.some.injEq] at hsp
    subst hsp; exact (layXc_ok d).told (LOk.of _ (fun c hd => by rw [e4] at hd; cases hd)) (xc4Sp_ok d)
  · rw [f10, Option.some.injEq] at hsp
    subst hsp; exact (layXc_ok d).told (LOk.of _ (fun c hd => by rw [e10] at hd; cases hd)) (xcSp_ok d)
noncomputable def layXc1 (d : Nat) : Lay := (layXc d).addL 37 (xcFH d)
theorem layXc1_ok (d : Nat) : (layXc1 d).OK Try.prog := (layXc_ok d).addL (xc_loops d)
def okUs (d : Nat) (l : List UnD) : Prop := l.length ≤ 1073741824 ∧ ∀ u ∈ l, wfW d u.body
/-- what exec.Check answers -/
def execE (d : Nat) (l : List UnD) : Int := cond ((l.length : Int) == 0) 71 (cond (l.any (deep d)) 42 (cond (l.any (badU d (l.length : Int))) 9 0))
abbrev Hx (full : Bool) (l : List UnD) : Heap := [.var [encUns full l]]
theorem xc_fun (d : Nat) (full : Bool) (l : List UnD) (k : Out → Ans) : iFun Try.prog ((layXc1 d).hd Try.prog) (layXc1 d).fhs 0 37 [encUns full l] [] k =
    cond ((l.length : Int) == 0) (k (.ret (.int .i64 71) (Hx full l)))
      (cond (tst (wfL wfUn (encUns full l) = true ∧ lenL (encUns full l) ≤ 1073741824 ∧ (∀ u ∈ unitsU (encUns full l), wfW d u.body) ∧ (l.length : Int) = (lenL (encUns full l) : Int) ∧ (0 : Int) = 0 ∧ ([] : List (List AVal)) = []))
        (cond ((unitsU (encUns full l)).any (deep d)) (k (.ret (.int .i64 42) (Hx full l)))
          (cond (tst (wfL wfUn (encUns full l) = true ∧ lenL (encUns full l) ≤ 1073741824 ∧ (∀ u ∈ unitsU (encUns full l), wfW d u.body) ∧ (l.length : Int) = (lenL (encUns full l) : Int) ∧ (0 : Int) = 0 ∧ ([] : List (List AVal)) = [] ∧ hOK 71 (Hx full l)))
            (cond ((unitsU (encUns full l)).any (badU d (unitsOf (Hx full l)))) (k (.ret (.int .i64 9) (Hx full l))) (k (.ret (.int .i64 0) (Hx full l)))) none)) none) := by kernel_rfl
theorem unitsU_enc (full : Bool) (l : List UnD) : unitsU (encUns full l) = l.map (fun u => decUn (encUn u)) := by
  simp only [unitsU, decL, encL]
  conv => rhs; rw [← range_getD l un0, List.map_map]
  rfl
theorem any_units (full : Bool) (l : List UnD) (p : UnD → Bool) (hp : ∀ u, p (decUn (encUn u)) = p u) : (unitsU (encUns full l)).any p = l.any p := by
  rw [unitsU_enc, List.any_map]
  congr 1
  funext u
  exact hp u
theorem wf_units (full : Bool) (l : List UnD) : wfL wfUn (encUns full l) = true := wfL_encL (fun u => tst_true (encUn_dec u).symm) l
theorem xc_call {d : Nat} {full : Bool} {l : List UnD} (h : okUs d l) (k : Out → Ans) : iFun Try.prog ((layXc1 d).hd Try.prog) (layXc1 d).fhs 0 37 [encUns full l] [] k = k (.ret (.int .i64 (execE d l)) (Hx full l)) := by
  have hu : ∀ u ∈ unitsU (encUns full l), wfW d u.body := fun u hu => by
    rw [unitsU_enc, List.mem_map] at hu
    obtain ⟨v, hv, rfl⟩ := hu
    exact h.2 v hv
  have el : lenL (encUns full l) = l.length := rfl
  have eu : unitsOf (Hx full l) = (l.length : Int) := rfl
  rw [xc_fun, any_units full l (deep d) (fun u => rfl), any_units full l (badU d (unitsOf (Hx full l))) (fun u => rfl), tst_true ⟨wf_units full l, by rw [el]; exact h.1, hu, rfl, rfl, rfl⟩, tst_true ⟨wf_units full l, by rw [el]; exact h.1, hu, rfl, rfl, rfl, .inr ⟨rfl, _, _, _, rfl⟩⟩, eu]
  unfold execE
  cases (l.length : Int) == 0 <;> cases l.any (deep d) <;> cases l.any (badU d (l.length : Int)) <;> rfl
noncomputable def execTold (d : Nat) : FSp := fun xs H k => match xs, H with
  | [x], [] => cond (tst (wfL wfUn x = true ∧ okUs d (unitsU x))) (k (.ret (.int .i64 (execE d (unitsU x))) [])) none
  | _, _ => none
theorem execTold_ok (d : Nat) (xs : List AVal) (H : Heap) (k : Out → Ans) (out : Out) (ho : execTold d xs H k = some out) : ∃ o, CallOK Try.prog 37 xs H o ∧ k o = some out := by
  unfold execTold at ho
  split at ho
  · rename_i x
    rw [Bool.cond_eq_ite] at ho
    split at ho
    · rename_i hc
      obtain ⟨hx, hok⟩ := of_tst hc
      exact ⟨_, (((layXc1_ok d).call (xc_call (full := fullOf x) hok)).freeze (d := 2) (v' := .int .i64 (execE d (unitsU x))) rfl).subArgs (.cons (sub_encL hx wfUn_sub) .nil), ho⟩
    · simp at ho
  · simp at ho
end Go.Mu
