/-
  What exec.may tells of a node.
-/
import Derived.Test.YtlbmedmddoljnaaWNode
set_option linter.unusedVariables false
set_option linter.unusedSimpArgs false
set_option maxRecDepth 100000
namespace Go.Mu
open Go Go.Proofs
/-- may a node be told? b, e: is one in its body, in its Else, that may not? -/
def nodeOk (n : NdE) (u : Int) (b e : Bool) : Bool :=
  cond (decide (n.kind < 1) || decide (n.kind > 7)) false (cond (n.kind == 2 && (decide (n.esc < 1) || decide (n.esc > 12))) false (cond (n.kind == 6 && (decide (n.unit < 0) || decide (n.unit ≥ u))) false
    (cond (n.kind == 1 || (n.kind == 6 && ((n.pipe.length : Int) == 0)) || pipeB n.pipe) (!b && !e) false)))
def badL : Nat → Int → AVal → Bool
  | 0, _, _ => false
  | d + 1, u, x => (nodesE x).any (fun n => !nodeOk n u (badL d u n.body) (badL d u n.els))
def unitsOf : Heap → Int
  | [.var [.int _ u]] => u
  | [.var [.list _ n _]] => n
  | _ => 0
def hOK (c : FuncId) (H : Heap) : Prop := (c = 86 ∧ ∃ u, H = [.var [.int .i64 u]]) ∨ (c = 71 ∧ ∃ f n r, H = [.var [.list f n r]])
noncomputable def cfTold (d : Nat) : FSp := fun xs H k => match xs with
  | [x, .func c [.ptr (.hp 0) 0]] => cond (tst (wfW d x ∧ hOK c H)) (k (.ret (.bool (badL d (unitsOf H) x)) H)) none
  | _ => none
noncomputable def layMay (d : Nat) : Lay := ((Lay.nil.addF 70 (cfTold d)).addF 64 chkTold).addL 72 { heap := [3] }
abbrev Hu (u : Int) : Heap := [.var [.int .i64 u]]
noncomputable abbrev mRest (d : Nat) (n : NdE) (u : Int) (k : Out → Ans) : Ans :=
  cond (tst (wfW d n.body ∧ hOK 86 (Hu u))) (cond (!badL d (unitsOf (Hu u)) n.body)
      (cond (tst (wfW d n.els ∧ hOK 86 (Hu u))) (k (.ret (.bool (cond (!badL d (unitsOf (Hu u)) n.body) (!badL d (unitsOf (Hu u)) n.els) false)) (Hu u))) none)
      (cond (!badL d (unitsOf (Hu u)) n.body) none (cond (!badL d (unitsOf (Hu u)) n.body) (k (.ret .undef (Hu u))) (k (.ret (.bool false) (Hu u)))))) none
theorem nmay_fun (d : Nat) (n : NdE) (u : Int) (k : Out → Ans) : iFun Try.prog ((layMay d).hd Try.prog) (layMay d).fhs 0 72 [.agg (encNe n), .int .i64 u] [] k =
    cond (cond (decide (n.kind < 1)) true (decide (n.kind > 7))) (k (.ret (.bool false) (Hu u)))
      (cond (cond (n.kind == 2) (cond (decide (n.esc < 1)) true (decide (n.esc > 12))) false) (k (.ret (.bool false) (Hu u)))
        (cond (cond (n.kind == 6) (cond (decide (n.unit < 0)) true (decide (n.unit ≥ u))) false) (k (.ret (.bool false) (Hu u)))
          (cond (cond (n.kind == 1) true (cond (n.kind == 6) ((n.pipe.length : Int) == 0) false)) (mRest d n u k)
            (cond (tst (encPipe n.pf n.pipe = encPipe (fullOf (encPipe n.pf n.pipe)) (decL decCall (encPipe n.pf n.pipe)) ∧ okPipe (decL decCall (encPipe n.pf n.pipe))))
              (cond ((cond (pipeB (decL decCall (encPipe n.pf n.pipe))) (0 : Int) 9) != 0) (k (.ret (.bool false) (Hu u))) (mRest d n u k)) none)))) := by kernel_rfl
theorem hOK_u (u : Int) : hOK 86 (Hu u) := .inl ⟨rfl, u, rfl⟩
theorem nmay_call {d : Nat} {n : NdE} {u : Int} (hp : okCs n.pipe) (h1 : wfW d n.body) (h2 : wfW d n.els) (k : Out → Ans) : iFun Try.prog ((layMay d).hd Try.prog) (layMay d).fhs 0 72 [.agg (encNe n), .int .i64 u] [] k = k (.ret (.bool (nodeOk n u (badL d u n.body) (badL d u n.els))) (Hu u)) := by
  rw [nmay_fun, decPipe_enc, tst_true ⟨rfl, hp.1⟩]
  have eu : unitsOf (Hu u) = u := rfl
  have er : ∀ b, mRest d n u k = k (.ret (.bool (cond true (!badL d u n.body && !badL d u n.els) b)) (Hu u)) := fun b => by
    unfold mRest
    rw [eu, tst_true ⟨h1, hOK_u u⟩, tst_true ⟨h2, hOK_u u⟩]
    cases badL d u n.body <;> cases badL d u n.els <;> rfl
  rw [er false]
  unfold nodeOk
  generalize badL d u n.body = b1
  generalize badL d u n.els = b2
  cases decide (n.kind < 1) <;> cases decide (n.kind > 7) <;> try rfl
  cases n.kind == 2 <;> cases decide (n.esc < 1) <;> cases decide (n.esc > 12) <;> try rfl
  all_goals (cases n.kind == 6 <;> cases decide (n.unit < 0) <;> cases decide (n.unit ≥ u) <;> try rfl)
  all_goals (cases n.kind == 1 <;> cases ((n.pipe.length : Int) == 0) <;> cases pipeB n.pipe <;> rfl)
/-- exec.may, told -/
noncomputable def mayTold' (d : Nat) : FSp := fun xs H k => match xs, H with
  | [.agg x, .int .i64 u], [] => cond (tst (x = encNe (decNe x) ∧ okCs (decNe x).pipe ∧ wfW d (decNe x).body ∧ wfW d (decNe x).els)) (k (.ret (.bool (nodeOk (decNe x) u (badL d u (decNe x).body) (badL d u (decNe x).els))) [])) none
  | _, _ => none
theorem mayTold'_ok {d : Nat} (hL : (layMay d).OK Try.prog) (xs : List AVal) (H : Heap) (k : Out → Ans) (out : Out) (ho : mayTold' d xs H k = some out) : ∃ o, CallOK Try.prog 72 xs H o ∧ k o = some out := by
  unfold mayTold' at ho
  split at ho
  · rename_i x u
    rw [Bool.cond_eq_ite] at ho
    split at ho
    · rename_i hc
      obtain ⟨hx, hp, h1, h2⟩ := of_tst hc
      generalize decNe x = n at *
      subst hx
      exact ⟨_, (hL.call (nmay_call hp h1 h2)).freeze (d := 2) (v' := .bool _) rfl, ho⟩
    · simp at ho
  · simp at ho
/- the function literals that call it -/
noncomputable def layMc (d : Nat) : Lay := Lay.nil.addF 72 (mayTold' d)
abbrev tM (d : Nat) (n : NdE) : Prop := encNe n = encNe (decNe (encNe n)) ∧ okCs (decNe (encNe n)).pipe ∧ wfW d (decNe (encNe n)).body ∧ wfW d (decNe (encNe n)).els
abbrev okM (d : Nat) (n : NdE) (u : Int) : Bool := nodeOk (decNe (encNe n)) u (badL d u (decNe (encNe n)).body) (badL d u (decNe (encNe n)).els)
theorem cl86_fun (d : Nat) (n : NdE) (u : Int) (k : Out → Ans) : iFun Try.prog ((layMc d).hd Try.prog) (layMc d).fhs 0 86 [.agg (encNe n), .ptr (.hp 0) 0] (Hu u) k = cond (tst (tM d n)) (k (.ret (.bool (!okM d n u)) (Hu u))) none := by kernel_rfl
theorem cl71_fun (d : Nat) (n : NdE) (f : Bool) (m : Nat) (r : Nat → List AVal) (k : Out → Ans) : iFun Try.prog ((layMc d).hd Try.prog) (layMc d).fhs 0 71 [.agg (encNe n), .ptr (.hp 0) 0] [.var [.list f m r]] k = cond (tst (tM d n)) (k (.ret (.bool (!okM d n m)) [.var [.list f m r]])) none := by kernel_rfl
noncomputable def clTold (d : Nat) (c : FuncId) : FSp := fun xs H k => match xs with
  | [.agg x, .ptr (.hp 0) 0] => cond (tst (hOK c H ∧ x = encNe (decNe x) ∧ okCs (decNe x).pipe ∧ wfW d (decNe x).body ∧ wfW d (decNe x).els)) (k (.ret (.bool (!nodeOk (decNe x) (unitsOf H) (badL d (unitsOf H) (decNe x).body) (badL d (unitsOf H) (decNe x).els))) H)) none
  | _ => none
theorem clTold_ok {d : Nat} (hL : (layMay d).OK Try.prog) (c : FuncId) (xs : List AVal) (H : Heap) (k : Out → Ans) (out : Out) (ho : clTold d c xs H k = some out) : ∃ o, CallOK Try.prog c xs H o ∧ k o = some out := by
  have hM : (layMc d).OK Try.prog := Lay.nil_ok.addF (mayTold'_ok hL)
  unfold clTold at ho
  split at ho
  · rename_i x
    rw [Bool.cond_eq_ite] at ho
    split at ho
    · rename_i hc
      obtain ⟨hH, hx, hp, h1, h2⟩ := of_tst hc
      generalize decNe x = n at *
      subst hx
      have t1 : tst (tM d n) = true := tst_true ⟨by rw [decNe_enc], by rw [decNe_enc]; exact hp, by rw [decNe_enc]; exact h1, by rw [decNe_enc]; exact h2⟩
      rcases hH with ⟨rfl, u, rfl⟩ | ⟨rfl, f, m, r, rfl⟩
      · refine ⟨_, hM.call (fun k => ?_), ho⟩
        rw [cl86_fun, t1]
        unfold okM
        rw [decNe_enc]; rfl
      · refine ⟨_, hM.call (fun k => ?_), ho⟩
        rw [cl71_fun, t1]
        unfold okM
        rw [decNe_enc]; rfl
    · simp at ho
  · simp at ho
end Go.Mu
/-
  Is there a node that may not be told?
-/
namespace Go.Mu
open Go Go.Proofs
abbrev bad1 (d : Nat) (u : Int) (n : NdE) : Bool := !nodeOk n u (badL d u n.body) (badL d u n.els)
noncomputable def layIx2 (d : Nat) : Lay := (Lay.nil.addF 86 (clTold d 86)).addF 71 (clTold d 71)
noncomputable def ixnSp (d : Nat) : LSp := fun vs bs H k => match vs with
  | [x, .func c [.ptr (.hp 0) 0], .int .i64 n, .int .i64 z] => cond (tst (hOK c H ∧ wfW (d + 1) x ∧ n = (lenL x : Int) ∧ z = 0 ∧ bs = []))
      (cond ((nodesE x).any (bad1 d (unitsOf H))) (k .ret [.int .i64 ((nodesE x).findIdx (bad1 d (unitsOf H)) : Nat)] [] H) (k (.exit 0) [.undef] [] H)) none
  | _ => none
noncomputable def ixnFH (d : Nat) : FH := .of [(2, loopSpec 19 [0,1,7,8] [] [4] [] (ixnSp d))]
noncomputable abbrev ixnTurn (d : Nat) := lturn Try.prog (layIx2 d) (ixnFH d) 85 2 [0,1,7,8] [] [4] []
abbrev ixnSt (c : FuncId) (full : Bool) (l : List NdE) (i : Int) (H : Heap) (D : List (FuncId × List AVal)) : St := stL 19 [0,1,7,8] [encNes full l, .func c [.ptr (.hp 0) 0], .int .i64 l.length, .int .i64 i] [] [] H D
noncomputable abbrev tC (d : Nat) (c : FuncId) (n : NdE) (H : Heap) : Bool := tst (hOK c H ∧ encNe n = encNe (decNe (encNe n)) ∧ okCs (decNe (encNe n)).pipe ∧ wfW d (decNe (encNe n)).body ∧ wfW d (decNe (encNe n)).els)
theorem ixn_step86 (d : Nat) (full : Bool) (l : List NdE) (i : Nat) (H : Heap) (D : List (FuncId × List AVal)) (k : Kont) : ixnTurn d (ixnSt 86 full l i H D) k =
    cond (decide ((i : Int) < l.length)) (cond (decide ((i : Int) < l.length)) (cond (tC d 86 (l.getD (i : Int).toNat ne0) H)
      (cond (bad1 d (unitsOf H) (decNe (encNe (l.getD (i : Int).toNat ne0)))) (k .ret (stL 19 [4] [.int .i64 i] [] [] H D)) (k .normal (ixnSt 86 full l (IntKind.i64.wrap ((i : Int) + 1)) H D))) none) none)
      (k (.exit 0) (stL 19 [4] [.undef] [] [] H D)) := by kernel_rfl
theorem ixn_step71 (d : Nat) (full : Bool) (l : List NdE) (i : Nat) (H : Heap) (D : List (FuncId × List AVal)) (k : Kont) : ixnTurn d (ixnSt 71 full l i H D) k =
    cond (decide ((i : Int) < l.length)) (cond (decide ((i : Int) < l.length)) (cond (tC d 71 (l.getD (i : Int).toNat ne0) H)
      (cond (bad1 d (unitsOf H) (decNe (encNe (l.getD (i : Int).toNat ne0)))) (k .ret (stL 19 [4] [.int .i64 i] [] [] H D)) (k .normal (ixnSt 71 full l (IntKind.i64.wrap ((i : Int) + 1)) H D))) none) none)
      (k (.exit 0) (stL 19 [4] [.undef] [] [] H D)) := by kernel_rfl
theorem ixn_step (d : Nat) {c : FuncId} {H : Heap} (hc : hOK c H) (full : Bool) (l : List NdE) (i : Nat) (D : List (FuncId × List AVal)) (k : Kont) : ixnTurn d (ixnSt c full l i H D) k =
    cond (decide ((i : Int) < l.length)) (cond (decide ((i : Int) < l.length)) (cond (tC d c (l.getD (i : Int).toNat ne0) H)
      (cond (bad1 d (unitsOf H) (decNe (encNe (l.getD (i : Int).toNat ne0)))) (k .ret (stL 19 [4] [.int .i64 i] [] [] H D)) (k .normal (ixnSt c full l (IntKind.i64.wrap ((i : Int) + 1)) H D))) none) none)
      (k (.exit 0) (stL 19 [4] [.undef] [] [] H D)) := by
  rcases hc with ⟨rfl, _⟩ | ⟨rfl, _⟩
  · exact ixn_step86 d full l i H D k
  · exact ixn_step71 d full l i H D k
theorem ixnSp_ok (d : Nat) : SpOK (ixnTurn d) 19 [0,1,7,8] [] [4] [] (ixnSp d) := by
  intro vs bs H k out ho
  unfold ixnSp at ho
  split at ho
  case h_2 => simp at ho
  rename_i x c n z
  rw [Bool.cond_eq_ite] at ho
  split at ho
  case isFalse => simp at ho
  rename_i hc
  obtain ⟨hH, ⟨hx, hl, hw⟩, rfl, rfl, rfl⟩ := of_tst hc
  have hl2 : (nodesE x).length = lenL x := lenL_decL (g := decNe) hx
  have hs : SubT x (encNes (fullOf x) (nodesE x)) := subT_encL hx wfNe_sub
  rw [← hl2] at hl ⊢
  generalize nodesE x = l at *
  have hrun : ∀ D k, rounds (ixnTurn d) (l.length + 1) (ixnSt c (fullOf x) l 0 H D) k = cond (l.any (bad1 d (unitsOf H))) (k .ret (stL 19 [4] [.int .i64 (l.findIdx (bad1 d (unitsOf H)) : Nat)] [] [] H D)) (k (.exit 0) (stL 19 [4] [.undef] [] [] H D)) := by
    intro D k
    have := search_find (turn := ixnTurn d) (S := fun i => ixnSt c (fullOf x) l (i : Nat) H D) (hit := fun i => bad1 d (unitsOf H) (l.getD i ne0)) (n := l.length) (e0 := .exit 0) (e1 := .ret)
      (R0 := stL 19 [4] [.undef] [] [] H D) (R1 := fun i => stL 19 [4] [.int .i64 (i : Nat)] [] [] H D) (fun i k hi => by
        have hm := hw (l.getD i ne0) (by rw [List.getD_eq_getElem?_getD, List.getElem?_eq_getElem hi]; exact List.getElem_mem hi)
        have t1 : tC d c (l.getD i ne0) H = true := tst_true ⟨hH, by rw [decNe_enc], by rw [decNe_enc]; exact hm.1, by rw [decNe_enc]; exact hm.2.1, by rw [decNe_enc]; exact hm.2.2⟩
        rw [ixn_step d hH, decide_eq_true (show (i : Int) < l.length by omega), wrap_add1 (by omega), Int.toNat_natCast, t1, decNe_enc]; rfl) (fun k => by rw [ixn_step d hH, decide_eq_false (by omega)]; rfl) (by simp) (by simp) k
    rw [find_getD (bad1 d (unitsOf H))] at this
    refine Eq.trans this ?_
    cases l.any (bad1 d (unitsOf H)) <;> rfl
  cases ha : l.any (bad1 d (unitsOf H)) with
  | true =>
    rw [ha] at ho
    exact ⟨_, _, _, _, _, _, .cons hs (.refl _), ⟨_, fun D k => by rw [hrun, ha]; rfl⟩, .refl _, ho⟩
  | false =>
    rw [ha] at ho
    exact ⟨_, _, _, _, _, _, .cons hs (.refl _), ⟨_, fun D k => by rw [hrun, ha]; rfl⟩, .refl _, ho⟩
noncomputable def layIx3 (d : Nat) : Lay := (layIx2 d).addL 85 (ixnFH d)
theorem cf_fun (d : Nat) (c : FuncId) (full : Bool) (l : List NdE) (X : Obj) (k : Out → Ans) : iFun Try.prog ((layIx3 d).hd Try.prog) (layIx3 d).fhs 0 70 [encNes full l, .func c [.ptr (.hp 0) 0]] [X] k =
    cond (tst (hOK c [X] ∧ wfW (d + 1) (encNes full l) ∧ (l.length : Int) = (lenL (encNes full l) : Int) ∧ (0 : Int) = 0 ∧ ([] : List (List AVal)) = []))
      (cond ((nodesE (encNes full l)).any (bad1 d (unitsOf [X]))) (k (.ret (.bool (decide ((((nodesE (encNes full l)).findIdx (bad1 d (unitsOf [X])) : Nat) : Int) ≥ 0))) [X])) (k (.ret (.bool false) [X]))) none := by kernel_rfl
theorem cfTold_ok : ∀ (d : Nat) (xs : List AVal) (H : Heap) (k : Out → Ans) (out : Out), cfTold d xs H k = some out → ∃ o, CallOK Try.prog 70 xs H o ∧ k o = some out
  | d, xs, H, k, out, ho => by
    unfold cfTold at ho
    split at ho
    case h_2 => simp at ho
    rename_i x c
    rw [Bool.cond_eq_ite] at ho
    split at ho
    case isFalse => simp at ho
    rename_i hc
    obtain ⟨hw, hH⟩ := of_tst hc
    cases d with
    | zero => exact hw.elim
    | succ d =>
      have hL : (layMay d).OK Try.prog := ((Lay.nil_ok.addF (cfTold_ok d)).addF chkTold_ok).addL (LOk.none (fun _ => rfl) _)
      have h2 : (layIx2 d).OK Try.prog := (Lay.nil_ok.addF (clTold_ok hL _)).addF (clTold_ok hL _)
      have h3 : (layIx3 d).OK Try.prog := h2.loop1 (id := 2) (by kernel_rfl) (by kernel_rfl) (by kernel_rfl) (ixnSp_ok d)
      have hs : Sub x (encNes (fullOf x) (nodesE x)) := sub_encL hw.1 wfNe_sub
      have e1 : nodesE (encNes (fullOf x) (nodesE x)) = nodesE x := nodesE_enc _ _
      have hl2 : (nodesE x).length = lenL x := lenL_decL (g := decNe) hw.1
      have e4 : wfW (d + 1) (encNes (fullOf x) (nodesE x)) := by
        refine ⟨?_, ?_, by rw [e1]; exact hw.2.2⟩
        · have hw3 := hw.2.2
          generalize nodesE x = l at hw3
          simp only [wfL, List.all_eq_true, List.mem_range]
          intro i hi
          refine wfNe_enc (hw3 _ ?_).1
          rw [List.getD_eq_getElem?_getD, List.getElem?_eq_getElem hi]
          exact List.getElem_mem hi
        · show (nodesE x).length ≤ _
          rw [hl2]; exact hw.2.1
      refine ⟨_, (h3.call (o := .ret (.bool (badL (d + 1) (unitsOf H) x)) H) (fun k => ?_)).subArgs (.cons hs (.cons (.refl _) .nil)), ho⟩
      obtain ⟨X, rfl⟩ : ∃ X, H = [X] := by rcases hH with ⟨_, u, rfl⟩ | ⟨_, f, n, r, rfl⟩ <;> exact ⟨_, rfl⟩
      rw [cf_fun, e1, tst_true ⟨hH, e4, rfl, rfl, rfl⟩, decide_eq_true (by omega)]
      show cond ((nodesE x).any (bad1 d (unitsOf [X]))) _ _ = k (.ret (.bool ((nodesE x).any (bad1 d (unitsOf [X])))) [X])
      cases (nodesE x).any (bad1 d (unitsOf [X])) <;> rfl
end Go.Mu
