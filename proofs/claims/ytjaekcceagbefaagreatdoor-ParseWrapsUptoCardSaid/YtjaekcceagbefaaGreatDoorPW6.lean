/-
  Lemmas on the given program (part 6).
-/
import Derived.Test.YtjaekcceagbefaaGreatDoorPW5
set_option linter.unusedVariables false
set_option linter.unusedSimpArgs false
set_option maxRecDepth 100000
set_option maxHeartbeats 2000000
namespace Go.Mu
open Go Go.Proofs
def cBad (c : CallD) : Bool := c.args.any (fun a => !argB a)
def cCnt (c : CallD) (b : Bool) : Int := cond b ((c.args.length : Int) + 1) c.args.length
def callB (c : CallD) (b : Bool) : Bool := !cBad c && cond (c.name == []) (!b && ((c.args.length : Int) == 1)) ((ar c.name).2.2 && decide ((ar c.name).1 ≤ cCnt c b) && decide (cCnt c b ≤ (ar c.name).2.1))
abbrev encPipe (full : Bool) (l : List CallD) : AVal := encL full encCall callD0 l
def cHit (l : List CallD) (i : Nat) : Bool := !callB (l.getD i callD0) (decide (0 < i))
def pipeB (l : List CallD) : Bool := decide (1 ≤ l.length ∧ l.length ≤ 16) && !(List.range l.length).any (cHit l)
end Go.Mu
namespace Go.Mu
open Go Go.Proofs
abbrev ssL (f : Bool) (l : List Oc) : AVal := encL f encS [] l
def idxS (l : List Oc) (s : Oc) : Int := bif l.any (fun x => s == x) then ((l.findIdx (fun x => s == x) : Nat) : Int) else -1
structure IxA where
 f : Bool
 l : List Oc
 s : Oc
 H : Heap
noncomputable def ixsSp : LSp := mkL (fun vs _ H => IxA.mk (fullOf (vs.getD 0 .undef)) (decL decS (vs.getD 0 .undef)) (aS vs 1) H) (fun a => a.l.length ≤ 1099511627776) (fun a => [ssL a.f a.l, .str a.s, .int .i64 a.l.length, .int .i64 0]) (fun _ => []) (fun a => a.H)
 (fun a k => cond (a.l.any (fun x => a.s == x)) (k .ret [.int .i64 (a.l.findIdx (fun x => a.s == x) : Nat)] [] a.H) (k (.exit 0) [.undef] [] a.H))
noncomputable def ixsFH : FH := .of [(2, loopSpec 19 [0,1,7,8] [] [4] [] ixsSp)]
theorem ixs_step (f : Bool) (l : List Oc) (s : Oc) (n i : Int) (H : Heap) (D : Dfs) (k : Kont) : lturn Tryz.prog Lay.nil ixsFH 41 2 [0,1,7,8] [] [4] [] (stL 19 [0,1,7,8] [ssL f l, .str s, .int .i64 n, .int .i64 i] [] [] H D) k = (
 bif decide (i < n) then bif decide (0 ≤ i) && decide (i < (↑l.length : Int)) then bif s == l.getD i.toNat [] then k AExit.ret (stL 19 [4] [AVal.int .i64 i] [] [] H D) else k AExit.normal (stL 19 [0, 1, 7, 8] [AVal.list f l.length fun i => [AVal.str (l.getD i [])], AVal.str s, AVal.int .i64 n, AVal.int .i64 (IntKind.i64.wrap (i + 1))] [] [] H D) else none else k (AExit.exit 0) (stL 19 [4] [AVal.undef] [] [] H D)) := by kernel_rfl
theorem ixsSp_ok : SpOK (lturn Tryz.prog Lay.nil ixsFH 41 2 [0,1,7,8] [] [4] []) 19 [0,1,7,8] [] [4] [] ixsSp := mkL_ok fun a h => by
 obtain ⟨f, l, s, H⟩ := a
 replace h : l.length ≤ 1099511627776 := h
 have hrun : ∀ D k, rounds (lturn Tryz.prog Lay.nil ixsFH 41 2 [0,1,7,8] [] [4] []) (l.length + 1) (stL 19 [0,1,7,8] [ssL f l, .str s, .int .i64 l.length, .int .i64 0] [] [] H D) k = cond (l.any (fun x => s == x)) (k .ret (stL 19 [4] [.int .i64 (l.findIdx (fun x => s == x) : Nat)] [] [] H D)) (k (.exit 0) (stL 19 [4] [.undef] [] [] H D)) := by
  intro D k
  have := search_find (turn := lturn Tryz.prog Lay.nil ixsFH 41 2 [0,1,7,8] [] [4] []) (S := fun i => stL 19 [0,1,7,8] [ssL f l, .str s, .int .i64 l.length, .int .i64 (i : Nat)] [] [] H D) (hit := fun i => (fun x => s == x) (l.getD i [])) (n := l.length) (e0 := .exit 0) (e1 := .ret)
   (R0 := stL 19 [4] [.undef] [] [] H D) (R1 := fun i => stL 19 [4] [.int .i64 (i : Nat)] [] [] H D) (fun i k hi => by
    rw [ixs_step, dT (show (i : Int) < l.length by omega), dT (show (0 : Int) ≤ i by omega), wrap_add1 (by omega)]; rfl) (fun k => by rw [ixs_step, dF (by omega)]; rfl) (by simp) (by simp) k
  rw [find_getD (fun x => s == x)] at this
  refine Eq.trans this ?_
  cases l.any (fun x => s == x) <;> rfl
 show ∃ e vs bs H', (∀ k : AExit → Vs → List Vs → Heap → Ans, cond (l.any (fun x => s == x)) _ _ = k e vs bs H') ∧ _
 cases ha : l.any (fun x => s == x) with
 | true => exact ⟨_, _, _, _, fun k => rfl, _, fun D k => by rw [hrun, ha]; rfl⟩
 | false => exact ⟨_, _, _, _, fun k => rfl, _, fun D k => by rw [hrun, ha]; rfl⟩
noncomputable def layIs : Lay := Lay.nil.addL 41 ixsFH
theorem layIs_ok : layIs.OK Tryz.prog := Lay.nil_ok.loop1 (id := 2) (by kernel_rfl) (by kernel_rfl) (by kernel_rfl) ixsSp_ok
theorem ixs_fun (f : Bool) (l : List Oc) (s : Oc) (k : Out → Ans) : iFun Tryz.prog (layIs.hd Tryz.prog) layIs.fhs 0 41 [ssL f l, .str s] [] k = (
 let m0 : Nat := (decL decS (AVal.list f l.length fun i => [AVal.str (l.getD i [])])).length;
  bif tst (m0 ≤ 1099511627776 ∧ SubTL [AVal.list f l.length fun i => [AVal.str (l.getD i [])], AVal.str s, AVal.int .i64 (↑l.length : Int), AVal.int .i64 0] [ssL (fullOf (AVal.list f l.length fun i => [AVal.str (l.getD i [])])) (decL decS (AVal.list f l.length fun i => [AVal.str (l.getD i [])])), AVal.str s, AVal.int .i64 (↑m0 : Int), AVal.int .i64 0] ∧ ([] : List Vs) = [] ∧ ([] : Heap) = []) then bif (decL decS (AVal.list f l.length fun i => [AVal.str (l.getD i [])])).any fun (x : Oc) => s == x then k (Out.ret (AVal.int .i64 (↑(List.findIdx (fun (x : Oc) => s == x) (decL decS (AVal.list f l.length fun i => [AVal.str (l.getD i [])]))) : Int)) []) else k (Out.ret (AVal.int .i64 (-1)) []) else none) := by kernel_rfl
theorem decS_enc (f : Bool) (l : List Oc) : decL decS (ssL f l) = l := decL_encL (fun s => rfl) l
theorem ixs_ok (f : Bool) (l : List Oc) (s : Oc) (hl : l.length ≤ 1099511627776) : CallOK Tryz.prog 41 [ssL f l, .str s] [] (.ret (.int .i64 (idxS l s)) []) := by
 have e : decL decS (AVal.list f l.length fun i => [AVal.str (l.getD i [])]) = l := decS_enc f l
 refine layIs_ok.callF (G := []) rfl (fun k => (ixs_fun f l s k).trans ?_)
 simp only [e]
 refine (congrArg (fun c => cond c _ none) (tst_true ⟨hl, .refl _, trivial, trivial⟩)).trans ?_
 unfold idxS
 cases l.any (fun x => s == x) <;> rfl
noncomputable def ixsTold : FSp := mkF (fun xs H => (fullOf (xs.getD 0 .undef), decL decS (xs.getD 0 .undef), aS xs 1)) (fun x => x.2.1.length ≤ 1099511627776) (fun x => [ssL x.1 x.2.1, .str x.2.2]) (fun _ => []) (fun x k => k (.ret (.int .i64 (idxS x.2.1 x.2.2)) []))
theorem ixsTold_ok : ∀ xs H k out, ixsTold xs H k = some out → ∃ o, CallOK Tryz.prog 41 xs H o ∧ k o = some out := mkF_ok fun x h => ⟨_, fun k => rfl, ixs_ok _ _ _ h⟩
def cTrue : Oc := [116, 114, 117, 101]
def cFalse : Oc := [102, 97, 108, 115, 101]
def cNil : Oc := [110, 105, 108]
noncomputable def layIs2 : Lay := Lay.nil.addF 41 ixsTold
theorem layIs2_ok : layIs2.OK Tryz.prog := Lay.nil_ok.addF ixsTold_ok
theorem const_fun (s : Oc) (k : Out → Ans) : iFun Tryz.prog (layIs2.hd Tryz.prog) layIs2.fhs 0 98 [.str s] [] k = (
 let z0 := [[AVal.str [116, 114, 117, 101]], [AVal.str [102, 97, 108, 115, 101]], [AVal.str [110, 105, 108]]];
  bif tst (3 ≤ 1099511627776 ∧ SubL [AVal.list true 3 fun i => z0.getD i [], AVal.str s] [ssL true (decL decS (AVal.list true 3 fun i => z0.getD i [])), AVal.str s] ∧ ([] : Heap) = []) then k (Out.ret (AVal.int .i64 (idxS (decL decS (AVal.list true 3 fun i => z0.getD i [])) s)) []) else none) := by kernel_rfl
def constM (s : Oc) : Int := idxS [cTrue, cFalse, cNil] s
theorem const_ok (s : Oc) : CallOK Tryz.prog 98 [.str s] [] (.ret (.int .i64 (constM s)) []) :=
 layIs2_ok.callF (G := []) rfl (fun k => (const_fun s k).trans ((congrArg (fun c => cond c _ none) (tst_true ⟨by decide, .cons (sub_encL (w := wfS) rfl wfS_sub) (.cons (.refl _) .nil), rfl⟩)).trans rfl))
def constTold : FSp := mkFS [.s] (fun xs => true) (fun xs k => k (.ret (.int .i64 (constM (aS xs 0))) []))
theorem constTold_ok : ∀ xs H k out, constTold xs H k = some out → ∃ o, CallOK Tryz.prog 98 xs H o ∧ k o = some out := mkFS_ok fun ys xs e h => by
 obtain ⟨s, rfl⟩ : ∃ s, xs = [.str s] := ⟨_, e⟩
 exact ⟨_, fun k => rfl, const_ok s⟩
end Go.Mu
namespace Go.Mu
open Go Go.Proofs
def encWq (w : WdD) : Vs := [.int .i64 w.kind, .str w.text, .int .i64 w.at_]
def decWq (r : Vs) : WdD := ⟨intOf (r.getD 0 .undef), strOf (r.getD 1 .undef), (intOf (r.getD 2 .undef)).toNat⟩
theorem decWq_enc (w : WdD) : decWq (encWq w) = w := rfl
abbrev fltP (at_ e : Int) : AVal := .iface 134 (.agg [.int .i64 at_, .int .i64 e])
noncomputable def laySp : Lay := Lay.nil.addF 108 sSplitTold
theorem laySp_ok : laySp.OK Tryz.prog := Lay.nil_ok.addF sSplitTold_ok
theorem steps_fun (s : Oc) (n : Int) (k : Out → Ans) (n0 : Int) (e_n0 : n0 = ((↑s.length : Int)))
 (l1 : Oc) (e_l1 : l1 = (List.drop (Int.toNat 1) (List.take n0.toNat s)))
 (m2 : Nat) (e_m2 : m2 = ((splitM l1 [46]).length)) : iFun Tryz.prog (laySp.hd Tryz.prog) laySp.fhs 0 105 [.str s, .int .i64 n] [] k = (
 bif bif s == [46] then true else s == [] then k (Out.ret (AVal.list true 0 fun (x : Nat) => []) []) else bif decide (1 ≤ n0) && decide (n0 ≤ n0) then bif decide (l1.length < 4294967281) && true then bif !decide ((↑m2 : Int) ≤ 16) then k (Out.panic (AVal.iface 134 (AVal.agg [AVal.int .i64 n, AVal.int .i64 42])) []) else k (Out.ret (AVal.list true m2 fun i => [AVal.str ((splitM (List.drop (Int.toNat 1) (List.take (↑s.length : Int).toNat s)) [46]).getD i [])]) []) else none else none) := by
 subst e_n0 e_l1 e_m2
 kernel_rfl
def stepsM (s : Oc) : List Oc := bif s == [46] || s == [] then [] else splitM (s.drop 1) [46]
theorem steps_run (s : Oc) (n : Int) (h : s.length ≤ 1073741824) (hn : ¬ (s = [46] ∨ s = [])) (k : Out → Ans) : iFun Tryz.prog (laySp.hd Tryz.prog) laySp.fhs 0 105 [.str s, .int .i64 n] [] k =
 cond (decide ((stepsM s).length ≤ 16)) (k (.ret (encL true encS [] (stepsM s)) [])) (k (.panic (fltP n 42) [])) := by
 have e1 : (s.take ((s.length : Nat) : Int).toNat).drop (Int.toNat 1) = s.drop 1 := by rw [Int.toNat_natCast, List.take_length]; rfl
 have hb : (s == [46] || s == []) = false := by
  rw [Bool.or_eq_false_iff]
  exact ⟨by simpa using fun h => hn (.inl h), by simpa using fun h => hn (.inr h)⟩
 have hs : 1 ≤ s.length := by
  cases s with
  | nil => exact absurd (.inr rfl) hn
  | cons c t => simp
 have hm : stepsM s = splitM (s.drop 1) [46] := by unfold stepsM; rw [hb]; rfl
 rw [hm]
 refine (steps_fun s n k _ rfl (s.drop 1) e1.symm _ rfl).trans ?_
 have hb2 : (bif s == [46] then true else s == []) = false := by rw [← hb]; cases s == [46] <;> rfl
 rw [hb2, dT (by omega), dT (by omega), dT (by rw [List.length_drop]; omega), e1]
 simp only [cond_true, cond_false, Bool.and_self]
 by_cases h16 : (splitM (s.drop 1) [46]).length ≤ 16
 · rw [dT h16, dT (by omega)]; rfl
 · rw [dF h16, dF (by omega)]; rfl
theorem steps_ok (s : Oc) (n : Int) (h : s.length ≤ 1073741824) (h16 : (stepsM s).length ≤ 16) : CallOK Tryz.prog 105 [.str s, .int .i64 n] [] (.ret (encL true encS [] (stepsM s)) []) := by
 by_cases hn : s = [46] ∨ s = []
 · have hb : (bif s == [46] then true else s == []) = true := by
    rcases hn with rfl | rfl <;> rfl
   have hm : stepsM s = [] := by
    rcases hn with rfl | rfl <;> rfl
   rw [hm]
   have key : ∀ k, iFun Tryz.prog (laySp.hd Tryz.prog) laySp.fhs 0 105 [.str s, .int .i64 n] [] k = k (.ret (.list true 0 fun _ => []) []) := fun k => by
    refine (steps_fun s n k _ rfl _ rfl _ rfl).trans ?_
    rw [hb]; rfl
   exact (laySp_ok.callF (G := []) rfl key).sub (.refl _) ⟨Sub.list (fun h => h) (fun i hi => by omega), rfl⟩
 · exact laySp_ok.callF (G := []) rfl (fun k => (steps_run s n h hn k).trans (by rw [dT h16]; rfl))
theorem steps_bad (s : Oc) (n : Int) (h : s.length ≤ 1073741824) (h16 : ¬ (stepsM s).length ≤ 16) : CallOK Tryz.prog 105 [.str s, .int .i64 n] [] (.panic (fltP n 42) []) := by
 have hn : ¬ (s = [46] ∨ s = []) := by
  rintro (rfl | rfl)
  · exact h16 (by show (0:Nat) ≤ 16; omega)
  · exact h16 (by show (0:Nat) ≤ 16; omega)
 exact laySp_ok.call (fun k => (steps_run s n h hn k).trans (by rw [dF h16]; rfl))
def stepsB (s : Oc) : Bool := decide ((stepsM s).length ≤ 16)
def stepsTold : FSp := mkFS [.s, .i .i64] (fun xs => decide ((aS xs 0).length ≤ 1073741824)) (fun xs k => cond (stepsB (aS xs 0)) (k (.ret (encL true encS [] (stepsM (aS xs 0))) [])) (k (.panic (fltP (aI xs 1) 42) [])))
theorem stepsTold_ok : ∀ xs H k out, stepsTold xs H k = some out → ∃ o, CallOK Tryz.prog 105 xs H o ∧ k o = some out := mkFS_ok fun ys xs e h => by
 obtain ⟨s, n, rfl⟩ : ∃ s n, xs = [.str s, .int .i64 n] := ⟨_, _, e⟩
 replace h : s.length ≤ 1073741824 := of_decide_eq_true h
 show ∃ o, (∀ k : Out → Ans, cond (stepsB s) _ _ = k o) ∧ _
 by_cases h16 : (stepsM s).length ≤ 16
 · have : stepsB s = true := dT h16
   rw [this]
   exact ⟨_, fun k => rfl, steps_ok s n h h16⟩
 · have : stepsB s = false := dF h16
   rw [this]
   exact ⟨_, fun k => rfl, steps_bad s n h h16⟩
noncomputable def layAr : Lay := (((Lay.nil.addF 105 stepsTold).addF 106 sCutTold).addF 95 numTold).addF 98 constTold
theorem layAr_ok : layAr.OK Tryz.prog := (((Lay.nil_ok.addF stepsTold_ok).addF sCutTold_ok).addF numTold_ok).addF constTold_ok
theorem arg_fun (w : WdD) (k : Out → Ans) (n0 : Int) (e_n0 : n0 = ((↑w.at_ : Int)))
 (n1 : Int) (e_n1 : n1 = ((↑w.text.length : Int)))
 (l2 : Oc) (e_l2 : l2 = (List.drop (Int.toNat 1) (List.take n1.toNat w.text)))
 (l3 : Oc) (e_l3 : l3 = ((Lib.cut l2 [46]).snd.fst))
 (m4 : Nat) (e_m4 : m4 = (l3.length))
 (l5 : Oc) (e_l5 : l5 = (46 :: l3)) : iFun Tryz.prog (layAr.hd Tryz.prog) layAr.fhs 0 99 [.agg (encWq w)] [] k = (
 let z0 := Lib.cut (List.drop (Int.toNat 1) (List.take (↑w.text.length : Int).toNat w.text)) [46];
  bif bif w.kind == 1 then decide (constM w.text ≥ 0) else false then k (Out.ret (AVal.agg [AVal.int .i64 (IntKind.i64.wrap (5 + constM w.text)), AVal.str [], AVal.list true 0 fun (x : Nat) => [], AVal.int .i64 0, AVal.str []]) []) else bif w.kind == 2 then bif decide (w.text.length ≤ 1073741824) then bif stepsB w.text then k (Out.ret (AVal.agg [AVal.int .i64 1, AVal.str [], AVal.list true (stepsM w.text).length fun i => [AVal.str ((stepsM w.text).getD i [])], AVal.int .i64 0, AVal.str []]) []) else k (Out.panic (fltP n0 42) []) else none else bif w.kind == 3 then bif decide (1 ≤ n1) && decide (n1 ≤ n1) then bif decide (l2.length < 4294967281) then bif (Lib.cut l2 [46]).snd.snd then bif decide (1 + m4 ≤ 4611686018427387904) then bif decide (l5.length ≤ 1073741824) then bif stepsB l5 then k (Out.ret (AVal.agg [AVal.int .i64 2, AVal.str (Lib.cut l2 [46]).fst, AVal.list true (stepsM l5).length fun i => [AVal.str ((stepsM (46 :: z0.snd.fst)).getD i [])], AVal.int .i64 0, AVal.str []]) []) else k (Out.panic (fltP n0 42) []) else none else none else bif decide (m4 ≤ 1073741824) then bif stepsB l3 then k (Out.ret (AVal.agg [AVal.int .i64 2, AVal.str (Lib.cut l2 [46]).fst, AVal.list true (stepsM l3).length fun i => [AVal.str ((stepsM z0.snd.fst).getD i [])], AVal.int .i64 0, AVal.str []]) []) else k (Out.panic (fltP n0 42) []) else none else none else none else bif w.kind == 4 then bif decide (w.text.length ≤ 1099511627776) then k (Out.ret (AVal.agg [AVal.int .i64 3, AVal.str [], AVal.list true 0 fun (x : Nat) => [], AVal.int .i64 (numM w.text).fst, AVal.str []]) []) else none else bif !w.kind == 5 then k (Out.panic (AVal.iface 134 (AVal.agg [AVal.int .i64 n0, AVal.int .i64 33])) []) else k (Out.ret (AVal.agg [AVal.int .i64 4, AVal.str [], AVal.list true 0 fun (x : Nat) => [], AVal.int .i64 0, AVal.str w.text]) [])) := by
  subst e_n0 e_n1 e_l2 e_l3 e_m4 e_l5
  kernel_rfl
def varRest (t : Oc) : Oc := bif (Lib.cut t [46]).2.2 then 46 :: (Lib.cut t [46]).2.1 else (Lib.cut t [46]).2.1
def isC (w : WdD) : Bool := w.kind == 1 && decide (constM w.text ≥ 0)
def argE (w : WdD) : Int :=
 bif isC w then 0 else bif w.kind == 2 then (bif stepsB w.text then 0 else 42) else bif w.kind == 3 then (bif stepsB (varRest (w.text.drop 1)) then 0 else 42) else
 bif w.kind == 4 then 0 else bif w.kind == 5 then 0 else 33
def argA (w : WdD) : ArgD :=
 bif isC w then ⟨5 + constM w.text, [], true, [], 0, []⟩ else bif w.kind == 2 then ⟨1, [], true, stepsM w.text, 0, []⟩ else
 bif w.kind == 3 then ⟨2, (Lib.cut (w.text.drop 1) [46]).1, true, stepsM (varRest (w.text.drop 1)), 0, []⟩ else
 bif w.kind == 4 then ⟨3, [], true, [], (numM w.text).1, []⟩ else ⟨4, [], true, [], 0, w.text⟩
def okWd (w : WdD) : Prop := w.text.length ≤ 1048576 ∧ (w.kind = 3 → 1 ≤ w.text.length)
theorem const_lt (s : Oc) : -1 ≤ constM s ∧ constM s ≤ 2 := by
 unfold constM idxS
 simp only [List.any_cons, List.any_nil, List.findIdx_cons, List.findIdx_nil]
 cases s == cTrue <;> cases s == cFalse <;> cases s == cNil <;> decide
theorem cut_len (t : Oc) : (Lib.cut t [46]).2.1.length ≤ t.length := by
 unfold Lib.cut
 split
 · simp only [List.length_drop]; omega
 · simp
theorem nilA {a b c e : AVal} {r : Nat → Vs} : Sub (.agg [a, b, .list true 0 r, c, e]) (.agg [a, b, encL true encS [] [], c, e]) :=
 .agg (.cons (.refl _) (.cons (.refl _) (.cons (Sub.list (fun h => h) (fun i hi => by omega)) (.refl _))))
theorem arg_ok (w : WdD) (h : okWd w) : CallOK Tryz.prog 99 [.agg (encWq w)] [] (bif argE w == 0 then .ret (.agg (encArg (argA w))) [] else .panic (fltP w.at_ (argE w)) []) := by
 obtain ⟨h1, h3⟩ := h
 have e1 : (w.text.take ((w.text.length : Nat) : Int).toNat).drop (Int.toNat 1) = w.text.drop 1 := by rw [Int.toNat_natCast, List.take_length]; rfl
 have hb : (bif w.kind == 1 then decide (constM w.text ≥ 0) else false) = isC w := bif_and
 have key := fun k => arg_fun w k _ rfl _ rfl (w.text.drop 1) e1.symm (Lib.cut (w.text.drop 1) [46]).2.1 rfl _ rfl _ rfl
 simp only [hb, e1] at key
 have hl := cut_len (w.text.drop 1)
 rw [List.length_drop] at hl
 unfold argE argA
 cases b0 : isC w with
 | true =>
  obtain ⟨c1, c2⟩ := const_lt w.text
  simp only [b0, cond_true, wrap_of (show -4611686018427387904 ≤ 5 + constM w.text by omega) (show 5 + constM w.text ≤ 4611686018427387904 by omega)] at key
  exact (layAr_ok.callF (G := []) rfl key).sub (.refl _) ⟨nilA, rfl⟩
 | false =>
  simp only [b0, cond_false] at key ⊢
  cases b2 : w.kind == 2 with
  | true =>
   simp only [b2, cond_true, dT (show w.text.length ≤ 1073741824 by omega)] at key ⊢
   cases bs : stepsB w.text with
   | true => simp only [bs, cond_true] at key ⊢; exact layAr_ok.callF (G := []) rfl key
   | false => simp only [bs, cond_false] at key ⊢; exact layAr_ok.call key
  | false =>
   simp only [b2, cond_false] at key ⊢
   cases b3 : w.kind == 3 with
   | true =>
    have h3' := h3 (by simpa using b3)
    have hv : varRest (w.text.drop 1) = bif (Lib.cut (w.text.drop 1) [46]).2.2 then 46 :: (Lib.cut (w.text.drop 1) [46]).2.1 else (Lib.cut (w.text.drop 1) [46]).2.1 := rfl
    simp only [b3, cond_true, dT (show (1 : Int) ≤ w.text.length by omega), dT (show (w.text.length : Int) ≤ w.text.length by omega), Bool.and_self, dT (show (w.text.drop 1).length < 4294967281 by rw [List.length_drop]; omega), dT (show 1 + (Lib.cut (w.text.drop 1) [46]).2.1.length ≤ 4611686018427387904 by omega), dT (show (46 :: (Lib.cut (w.text.drop 1) [46]).2.1).length ≤ 1073741824 by rw [List.length_cons]; omega), dT (show (Lib.cut (w.text.drop 1) [46]).2.1.length ≤ 1073741824 by omega)] at key ⊢
    rw [hv]
    cases bc : (Lib.cut (w.text.drop 1) [46]).2.2 with
    | true =>
     simp only [bc, cond_true] at key ⊢
     cases bs : stepsB (46 :: (Lib.cut (w.text.drop 1) [46]).2.1) with
     | true => simp only [bs, cond_true] at key ⊢; exact layAr_ok.callF (G := []) rfl key
     | false => simp only [bs, cond_false] at key ⊢; exact layAr_ok.call key
    | false =>
     simp only [bc, cond_false] at key ⊢
     cases bs : stepsB (Lib.cut (w.text.drop 1) [46]).2.1 with
     | true => simp only [bs, cond_true] at key ⊢; exact layAr_ok.callF (G := []) rfl key
     | false => simp only [bs, cond_false] at key ⊢; exact layAr_ok.call key
   | false =>
    simp only [b3, cond_false] at key ⊢
    cases b4 : w.kind == 4 with
    | true =>
     simp only [b4, cond_true, dT (show w.text.length ≤ 1099511627776 by omega)] at key ⊢
     exact (layAr_ok.callF (G := []) rfl key).sub (.refl _) ⟨nilA, rfl⟩
    | false =>
     simp only [b4, cond_false] at key ⊢
     cases b5 : w.kind == 5 with
     | true =>
      simp only [b5, Bool.not_true, cond_false, cond_true] at key ⊢
      exact (layAr_ok.callF (G := []) rfl key).sub (.refl _) ⟨nilA, rfl⟩
     | false =>
      simp only [b5, Bool.not_false, cond_false, cond_true] at key ⊢
      exact layAr_ok.call key
def wdR (xs : Vs) : Vs := match xs with | [.agg r] => r | _ => []
def wdOkR (r : Vs) : Prop := okWd (decWq r)
def wdER (r : Vs) : Bool := argE (decWq r) == 0
def wdEncR (r : Vs) : AVal := .agg (encWq (decWq r))
def wdArgR (r : Vs) : ArgD := argA (decWq r)
noncomputable def wdArgTold : FSp := mkF (fun xs H => wdR xs) wdOkR (fun r => [wdEncR r]) (fun _ => []) (fun r k => cond (wdER r) (k (.ret (.agg (encArg (wdArgR r))) [])) (k (.panic (fltP (decWq r).at_ (argE (decWq r))) [])))
theorem wdArgTold_ok : ∀ xs H k out, wdArgTold xs H k = some out → ∃ o, CallOK Tryz.prog 99 xs H o ∧ k o = some out := mkF_ok fun r h => by
 have key := arg_ok (decWq r) h
 show ∃ o, (∀ k : Out → Ans, cond (argE (decWq r) == 0) _ _ = k o) ∧ _
 cases hb : argE (decWq r) == 0 with
 | true => rw [hb] at key; exact ⟨_, fun k => rfl, key⟩
 | false => rw [hb] at key; exact ⟨_, fun k => rfl, key⟩
end Go.Mu
namespace Go.Mu
open Go Go.Proofs
def gV (j n : Nat) : AVal := match n with
 | 0 => nilList
 | m + 1 => .own j 0 (m + 1) m false
def gH {α : Type} (sz : Nat) (E : α → Vs) (l : List α) : Heap := match l with
 | [] => []
 | a :: r => [.arr sz ((a :: r).map E) r.length]
theorem g_snoc {α : Type} (j sz : Nat) (E : α → Vs) (l : List α) (a : α) : gV j (l ++ [a]).length = .own j 0 (l.length + 1) l.length false ∧ gH sz E (l ++ [a]) = [.arr sz ((l ++ [a]).map E) l.length] := by
 cases l with
 | nil => exact ⟨rfl, rfl⟩
 | cons b r => simp [gV, gH]
abbrev wd0 : WdD := ⟨0, [], 0⟩
abbrev encWqs (f : Bool) (l : List WdD) : AVal := encL f encWq wd0 l
noncomputable def layCl : Lay := (layAr.addF 99 wdArgTold).addF 100 arTold
theorem layCl_ok : layCl.OK Tryz.prog := (layAr_ok.addF wdArgTold_ok).addF pArTold_ok
abbrev clV (ah : Bool) (le mo : Int) : Vs := [.bool ah, .ptr (.tmp 4) 0, .ptr (.tmp 5) 0, .int .i64 le, .int .i64 mo, .ptr (.tmp 10) 0]
abbrev clB (w : WdD) (nm : Oc) (x : AVal) : List Vs := [[.str [], nilList], encWq w, [.str nm, x]]
noncomputable abbrev clTurn := lturn Tryz.prog layCl {} 88 12 [1,4,5,7,8,10,59,60,61] [4,5,10] [1,4,5,7,8,10] [4,5,10]
theorem cl_s0 (ah : Bool) (le mo : Int) (w : WdD) (nm : Oc) (f : Bool) (l : List WdD) (n i : Int) (D : Dfs) (k : Kont) : clTurn (stL 103 [1,4,5,7,8,10,59,60,61] (clV ah le mo ++ [encWqs f l, .int .i64 n, .int .i64 i]) [4,5,10] (clB w nm nilList) [] D) k = (
 let z0 := stL 103 [1,4,5,7,8,10] (clV ah le mo) [4,5,10] [[], [], []] [] D;
  bif decide (i < n) then bif decide (0 ≤ i) && decide (i < (l.length : Int)) then bif !bif (l.getD i.toNat wd0).kind != 1 then true else decide (constM (l.getD i.toNat wd0).text ≥ 0) then k (.panic (fltP (l.getD i.toNat wd0).at_ 33)) z0 else bif tst (okWd (l.getD i.toNat wd0) ∧ SubL [.agg (encWq (l.getD i.toNat wd0))] [.agg (encWq (l.getD i.toNat wd0))] ∧ ([] : Heap) = []) then bif argE (l.getD i.toNat wd0) == 0 then k .normal (stL 103 [1,4,5,7,8,10,59,60,61] (clV ah le mo ++ [encWqs f l, .int .i64 n, .int .i64 (IntKind.i64.wrap (i + 1))]) [4,5,10] (clB w nm (.own 0 0 (0 + 1) 0 false)) [.arr 5 [encArg (argA (l.getD i.toNat wd0))] 0] D) else k (.panic (fltP (l.getD i.toNat wd0).at_ (argE (l.getD i.toNat wd0)))) z0 else none else none else k (.exit 0) (stL 103 [1,4,5,7,8,10] (clV ah le mo) [4,5,10] (clB w nm nilList) [] D)) := by kernel_rfl
theorem cl_s1 (ah : Bool) (le mo : Int) (w : WdD) (nm : Oc) (f : Bool) (l : List WdD) (n i : Int) (q v : Nat) (rows : List Vs) (D : Dfs) (k : Kont) : clTurn (stL 103 [1,4,5,7,8,10,59,60,61] (clV ah le mo ++ [encWqs f l, .int .i64 n, .int .i64 i]) [4,5,10] (clB w nm (.own 0 0 q v false)) [.arr 5 rows v] D) k = (
 let z0 := stL 103 [1,4,5,7,8,10] (clV ah le mo) [4,5,10] [[], [], []] [.arr 5 rows v] D;
  bif decide (i < n) then bif decide (0 ≤ i) && decide (i < (l.length : Int)) then bif !bif (l.getD i.toNat wd0).kind != 1 then true else decide (constM (l.getD i.toNat wd0).text ≥ 0) then k (.panic (fltP (l.getD i.toNat wd0).at_ 33)) z0 else bif tst (okWd (l.getD i.toNat wd0) ∧ SubL [.agg (encWq (l.getD i.toNat wd0))] [.agg (encWq (l.getD i.toNat wd0))] ∧ ([] : Heap) = []) then bif argE (l.getD i.toNat wd0) == 0 then bif v == v && q == rows.length && decide ((2 * (q + 1) + 1000) * 72 ≤ 281474976710656) && true then k .normal (stL 103 [1,4,5,7,8,10,59,60,61] (clV ah le mo ++ [encWqs f l, .int .i64 n, .int .i64 (IntKind.i64.wrap (i + 1))]) [4,5,10] (clB w nm (.own 0 0 (q + 1) (v + 1) false)) [.arr 5 (rows ++ [encArg (argA (l.getD i.toNat wd0))]) (v + 1)] D) else none else k (.panic (fltP (l.getD i.toNat wd0).at_ (argE (l.getD i.toNat wd0)))) z0 else none else none else k (.exit 0) (stL 103 [1,4,5,7,8,10] (clV ah le mo) [4,5,10] (clB w nm (.own 0 0 q v false)) [.arr 5 rows v] D)) := by kernel_rfl
def argsM : List WdD → List ArgD × Option (Nat × Int)
 | [] => ([], none)
 | w :: l => bif argE w == 0 then (argA w :: (argsM l).1, (argsM l).2) else ([], some (w.at_, argE w))
theorem argE_33 (w : WdD) (h : (!bif w.kind != 1 then true else decide (constM w.text ≥ 0)) = true) : argE w = 33 := by
 unfold argE isC
 cases h1 : w.kind == 1 with
 | false =>
  have : (w.kind != 1) = true := by simp [bne, h1]
  rw [this] at h; cases h
 | true =>
  have e : w.kind = 1 := by simpa using h1
  have : (w.kind != 1) = false := by simp [bne, h1]
  rw [this] at h
  simp only [cond_false, Bool.not_eq_true'] at h
  rw [h, e]; rfl
theorem cl_runs (ah : Bool) (le mo : Int) (w : WdD) (nm : Oc) (f : Bool) (l : List WdD) (hl : l.length ≤ 4294967296) (hw : ∀ x ∈ l, okWd x) : ∀ (m i : Nat) (bs : List ArgD), l.length - i ≤ m → i ≤ l.length → bs.length ≤ i →
 (∀ e, (argsM (l.drop i)).2 = some e → LoopRuns clTurn 103 [1,4,5,7,8,10,59,60,61] [4,5,10] [1,4,5,7,8,10] [4,5,10] (clV ah le mo ++ [encWqs f l, .int .i64 l.length, .int .i64 i]) (clB w nm (gV 0 bs.length)) (gH 5 encArg bs) (.panic (fltP e.1 e.2)) (clV ah le mo) [[], [], []] (gH 5 encArg (bs ++ (argsM (l.drop i)).1))) ∧
 ((argsM (l.drop i)).2 = none → LoopRuns clTurn 103 [1,4,5,7,8,10,59,60,61] [4,5,10] [1,4,5,7,8,10] [4,5,10] (clV ah le mo ++ [encWqs f l, .int .i64 l.length, .int .i64 i]) (clB w nm (gV 0 bs.length)) (gH 5 encArg bs) (.exit 0) (clV ah le mo) (clB w nm (gV 0 (bs ++ (argsM (l.drop i)).1).length)) (gH 5 encArg (bs ++ (argsM (l.drop i)).1))) := by
 intro m
 have fin : ∀ (i : Nat) (bs : List ArgD), ¬ i < l.length → LoopRuns clTurn 103 [1,4,5,7,8,10,59,60,61] [4,5,10] [1,4,5,7,8,10] [4,5,10] (clV ah le mo ++ [encWqs f l, .int .i64 l.length, .int .i64 i]) (clB w nm (gV 0 bs.length)) (gH 5 encArg bs) (.exit 0) (clV ah le mo) (clB w nm (gV 0 bs.length)) (gH 5 encArg bs) := fun i bs hi => by
  refine .stop (by simp) (fun D k => ?_)
  cases bs with
  | nil => exact (cl_s0 ah le mo w nm f l l.length i D k).trans (by rw [dF (by omega)]; rfl)
  | cons a r => exact (cl_s1 ah le mo w nm f l l.length i _ _ _ D k).trans (by rw [dF (by omega)]; rfl)
 induction m with
 | zero =>
  intro i bs hm hi ha
  have e : l.drop i = [] := List.drop_eq_nil_of_le (by omega)
  rw [e]
  refine ⟨fun e he => (by cases he), fun _ => ?_⟩
  rw [show (argsM []).1 = [] from rfl, List.append_nil]
  exact fin i bs (by omega)
 | succ m ih =>
  intro i bs hm hi ha
  by_cases hlt : i < l.length
  case neg =>
   have e : l.drop i = [] := List.drop_eq_nil_of_le (by omega)
   rw [e]
   refine ⟨fun e he => (by cases he), fun _ => ?_⟩
   rw [show (argsM []).1 = [] from rfl, List.append_nil]
   exact fin i bs hlt
  obtain ⟨x, hx⟩ : ∃ x, x = l.getD i wd0 := ⟨_, rfl⟩
  have hwx : okWd x := hw x (by rw [hx, gQ, List.getElem?_eq_getElem hlt]; exact List.getElem_mem _)
  have ed := drop_cons_of l i wd0 hlt
  rw [← hx] at ed
  have e2 : IntKind.i64.wrap ((i : Int) + 1) = ((i + 1 : Nat) : Int) := wrap_add1 (by omega)
  have k0 := fun D k => cl_s0 ah le mo w nm f l l.length i D k
  have k1 := fun q v rows D k => cl_s1 ah le mo w nm f l l.length i q v rows D k
  have ht : tst (okWd x ∧ SubL [.agg (encWq x)] [.agg (encWq x)] ∧ True) = true := tst_true ⟨hwx, .refl _, trivial⟩
  simp only [ht, dT (show (i : Int) < l.length by omega), dT (show (0 : Int) ≤ i by omega), Int.toNat_natCast, ← hx, Bool.and_self, cond_true, e2] at k0 k1
  rw [ed, argsM]
  cases hb : (!bif x.kind != 1 then true else decide (constM x.text ≥ 0)) with
  | true =>
   have e33 := argE_33 x hb
   simp only [hb, cond_true] at k0 k1
   rw [e33]
   refine ⟨fun e he => ?_, fun h => by cases h⟩
   cases he
   show LoopRuns _ _ _ _ _ _ _ _ _ _ _ _ (gH 5 encArg (bs ++ []))
   rw [List.append_nil]
   refine .stop (by simp) (fun D k => ?_)
   cases bs with
   | nil => exact k0 D k
   | cons a r => exact k1 _ _ _ D k
  | false =>
   simp only [hb, cond_false] at k0 k1
   cases ha0 : argE x == 0 with
   | false =>
    refine ⟨fun e he => ?_, fun h => by cases h⟩
    cases he
    show LoopRuns _ _ _ _ _ _ _ _ _ _ _ _ (gH 5 encArg (bs ++ []))
    rw [List.append_nil]
    refine .stop (by simp) (fun D k => ?_)
    cases bs with
    | nil => exact (k0 D k).trans (by simp only [ha0]; rfl)
    | cons a r => exact (k1 _ _ _ D k).trans (by simp only [ha0]; rfl)
   | true =>
    have ih2 := ih (i + 1) (bs ++ [argA x]) (by omega) (by omega) (by rw [List.length_append]; show _ + 1 ≤ _; omega)
    obtain ⟨s1, s2⟩ := g_snoc 0 5 encArg bs (argA x)
    rw [s1, s2, List.append_assoc, List.singleton_append] at ih2
    have hstep : ∀ D k, clTurn (stL 103 [1,4,5,7,8,10,59,60,61] (clV ah le mo ++ [encWqs f l, .int .i64 l.length, .int .i64 i]) [4,5,10] (clB w nm (gV 0 bs.length)) (gH 5 encArg bs) D) k =
     k .normal (stL 103 [1,4,5,7,8,10,59,60,61] (clV ah le mo ++ [encWqs f l, .int .i64 l.length, .int .i64 ((i + 1 : Nat) : Int)]) [4,5,10] (clB w nm (.own 0 0 (bs.length + 1) bs.length false)) [.arr 5 ((bs ++ [argA x]).map encArg) bs.length] D) := fun D k => by
     cases bs with
     | nil => exact (k0 D k).trans (by simp only [ha0]; rfl)
     | cons a r =>
      refine (k1 _ _ _ D k).trans ?_
      simp only [ha0]
      rw [List.length_cons] at ha
      have hq : (r.length + 1 == ((a :: r).map encArg).length) = true := by simp
      rw [hq, beq_self_eq_true, dT (show (2 * (r.length + 1 + 1) + 1000) * 72 ≤ 281474976710656 by omega)]
      have hr : (a :: r).map encArg ++ [encArg (argA x)] = (a :: r ++ [argA x]).map encArg := by simp
      rw [hr]
      rfl
    refine ⟨fun e he => ?_, fun he => ?_⟩
    · exact .step hstep (ih2.1 e he)
    · exact .step hstep (ih2.2 he)
structure ClA where
 ah : Bool
 le : Int
 mo : Int
 wk : Int
 wt : Oc
 wn : Nat
 nm : Oc
 x : AVal
def encWqsR (x : AVal) : AVal := encWqs (fullOf x) (decL decWq x)
def lenWqR (x : AVal) : Nat := (decL decWq x).length
def clOk (x : AVal) : Prop := lenWqR x ≤ 4294967296 ∧ ∀ w ∈ decL decWq x, okWd w
def clBad (x : AVal) : Bool := (argsM (decL decWq x)).2.isSome
def clAt (x : AVal) : Int := ((argsM (decL decWq x)).2.getD (0, 0)).1
def clErr (x : AVal) : Int := ((argsM (decL decWq x)).2.getD (0, 0)).2
def clNum (x : AVal) : Nat := (argsM (decL decWq x)).1.length
def clRows (x : AVal) : List Vs := (argsM (decL decWq x)).1.map encArg
def clG (x : AVal) : Heap := gH 5 encArg (argsM (decL decWq x)).1
noncomputable def clSp : LSp := mkL (fun vs bs _ => ClA.mk (aB vs 0) (aI vs 3) (aI vs 4) (aI (bs.getD 1 []) 0) (aS (bs.getD 1 []) 1) (aI (bs.getD 1 []) 2).toNat (strOf ((bs.getD 2 []).getD 0 .undef)) (vs.getD 6 .undef)) (fun a => clOk a.x) (fun a => clV a.ah a.le a.mo ++ [encWqsR a.x, .int .i64 (lenWqR a.x : Nat), .int .i64 0]) (fun a => clB ⟨a.wk, a.wt, a.wn⟩ a.nm nilList) (fun _ => [])
 (fun a k => cond (clBad a.x) (k (.panic (fltP (clAt a.x) (clErr a.x))) (clV a.ah a.le a.mo) [[], [], []] (clG a.x))
  (cond (clNum a.x == 0) (k (.exit 0) (clV a.ah a.le a.mo) (clB ⟨a.wk, a.wt, a.wn⟩ a.nm nilList) [])
   (k (.exit 0) (clV a.ah a.le a.mo) (clB ⟨a.wk, a.wt, a.wn⟩ a.nm (.own 0 0 (clNum a.x) (clNum a.x - 1) false)) [.arr 5 (clRows a.x) (clNum a.x - 1)])))
theorem clSp_ok : SpOK clTurn 103 [1,4,5,7,8,10,59,60,61] [4,5,10] [1,4,5,7,8,10] [4,5,10] clSp := mkL_ok fun a h => by
 obtain ⟨ah, le, mo, wk, wt, wn, nm, x⟩ := a
 obtain ⟨r1, r2⟩ := cl_runs ah le mo ⟨wk, wt, wn⟩ nm (fullOf x) (decL decWq x) h.1 h.2 _ 0 [] (Nat.le_refl _) (Nat.zero_le _) (Nat.le_refl _)
 rw [List.drop_zero, List.nil_append] at r1 r2
 show ∃ e vs bs H, (∀ k : AExit → Vs → List Vs → Heap → Ans, cond (clBad x) _ _ = k e vs bs H) ∧ _
 cases hb : (argsM (decL decWq x)).2 with
 | some e =>
  have e1 : clBad x = true := by unfold clBad; rw [hb]; rfl
  have e2 : clAt x = e.1 := by unfold clAt; rw [hb]; rfl
  have e3 : clErr x = e.2 := by unfold clErr; rw [hb]; rfl
  rw [e1, e2, e3]
  exact ⟨_, _, _, _, fun k => rfl, r1 e hb⟩
 | none =>
  have e1 : clBad x = false := by unfold clBad; rw [hb]; rfl
  have r := r2 hb
  rw [e1]
  unfold clNum clRows
  cases ha : (argsM (decL decWq x)).1 with
  | nil => rw [ha] at r; exact ⟨_, _, _, _, fun k => rfl, r⟩
  | cons b t => rw [ha] at r; exact ⟨_, _, _, _, fun k => rfl, r⟩
noncomputable def clFH : FH := .of [(12, loopSpec 103 [1,4,5,7,8,10,59,60,61] [4,5,10] [1,4,5,7,8,10] [4,5,10] clSp)]
theorem cl_turn_eq : lturn Tryz.prog layCl clFH 88 12 [1,4,5,7,8,10,59,60,61] [4,5,10] [1,4,5,7,8,10] [4,5,10] = clTurn := by kernel_rfl
noncomputable def layCl2 : Lay := layCl.addL 88 clFH
theorem layCl2_ok : layCl2.OK Tryz.prog := layCl_ok.loop1 (id := 12) (by kernel_rfl) (by kernel_rfl) (by kernel_rfl) (by rw [cl_turn_eq]; exact clSp_ok)
theorem cal_fun (f : Bool) (w : WdD) (l : List WdD) (ah : Bool) (k : Out → Ans) (n0 : Int) (e_n0 : n0 = ((↑(w :: l).length : Int)))
 (n1 : Int) (e_n1 : n1 = ((↑w.at_ : Int)))
 (m2 : Nat) (e_m2 : m2 = (n1.toNat))
 (n3 : Int) (e_n3 : n3 = ((↑m2 : Int)))
 (m4 : Nat) (e_m4 : m4 = ((n0 - 1).toNat))
 (n5 : Int) (e_n5 : n5 = ((ar w.text).fst))
 (n6 : Int) (e_n6 : n6 = ((ar w.text).snd.fst))
 (m7 : Nat) (e_m7 : m7 = (clNum (AVal.list (f && n0 == n0) m4 fun i => encWq ((w :: l).getD (Int.toNat 1 + i) wd0))))
 (n8 : Int) (e_n8 : n8 = ((↑m7 : Int)))
 (n9 : Int) (e_n9 : n9 = (IntKind.i64.wrap (n8 + 1)))
 (m10 : Nat) (e_m10 : m10 = (m7 - 1)) : iFun Tryz.prog (layCl2.hd Tryz.prog) layCl2.fhs 0 88 [encWqs f (w :: l), .bool ah] [] k = (
 let z0 := wdArgR (wdR [AVal.agg [AVal.int .i64 w.kind, AVal.str w.text, AVal.int .i64 (↑w.at_ : Int)]]);
 let z1 := [AVal.int .i64 w.kind, AVal.str w.text, AVal.int .i64 n1];
 let z2 := AVal.iface 134 (AVal.agg [AVal.int .i64 n3, AVal.int .i64 3]);
 let z3 := AVal.agg [AVal.str w.text, AVal.own 0 0 m7 m10 false];
  bif decide (0 < n0) then bif bif w.kind != 1 then true else decide (constM w.text ≥ 0) then bif !!ah then k (Out.panic (AVal.iface 134 (AVal.agg [AVal.int .i64 n1, AVal.int .i64 33])) []) else bif tst (wdOkR (wdR [AVal.agg z1]) ∧ SubL [AVal.agg z1] [wdEncR (wdR [AVal.agg z1])] ∧ ([] : Heap) = []) then bif wdER (wdR [AVal.agg z1]) then bif decide (n0 > 1) then bif decide (1 < n0) then k (Out.panic (AVal.iface 134 (AVal.agg [AVal.int .i64 (↑((w :: l).getD 1 wd0).at_ : Int), AVal.int .i64 33])) []) else none else k (Out.ret (AVal.agg [AVal.str [], AVal.list true 1 fun i => [[AVal.int .i64 z0.kind, AVal.str z0.name, AVal.list z0.pf z0.path.length fun i => [AVal.str (z0.path.getD i [])], AVal.int .i64 z0.int, AVal.str z0.text]].getD i []]) []) else k (Out.panic (fltP n3 (argE (WdD.mk w.kind w.text m2))) []) else none else bif !(ar w.text).snd.snd then k (Out.panic (AVal.iface 134 (AVal.agg [AVal.int .i64 n1, AVal.int .i64 31])) []) else bif decide (1 ≤ n0) && decide (n0 ≤ n0) then bif tst (clOk (AVal.list (f && n0 == n0) m4 fun i => encWq ((w :: l).getD (Int.toNat 1 + i) wd0)) ∧ SubTL [AVal.bool ah, AVal.ptr (Oid.tmp 4) 0, AVal.ptr (Oid.tmp 5) 0, AVal.int .i64 n5, AVal.int .i64 n6, AVal.ptr (Oid.tmp 10) 0, AVal.list (f && n0 == n0) m4 fun i => encWq ((w :: l).getD (Int.toNat 1 + i) wd0), AVal.int .i64 (↑m4 : Int), AVal.int .i64 0] [AVal.bool ah, AVal.ptr (Oid.tmp 4) 0, AVal.ptr (Oid.tmp 5) 0, AVal.int .i64 n5, AVal.int .i64 n6, AVal.ptr (Oid.tmp 10) 0, encWqsR (AVal.list (f && n0 == n0) m4 fun i => encWq ((w :: l).getD (Int.toNat 1 + i) wd0)), AVal.int .i64 (↑(lenWqR (AVal.list (f && n0 == n0) m4 fun i => encWq ((w :: l).getD (Int.toNat 1 + i) wd0))) : Int), AVal.int .i64 0] ∧ [[AVal.str [], AVal.list true 0 fun (x : Nat) => []], z1, [AVal.str w.text, AVal.list true 0 fun (x : Nat) => []]] = clB (WdD.mk w.kind w.text m2) w.text (AVal.list true 0 fun (x : Nat) => []) ∧ ([] : Heap) = []) then bif clBad (AVal.list (f && n0 == n0) m4 fun i => encWq ((w :: l).getD (Int.toNat 1 + i) wd0)) then k (Out.panic (fltP (clAt (AVal.list (f && n0 == n0) m4 fun i => encWq ((w :: l).getD (Int.toNat 1 + i) wd0))) (clErr (AVal.list (f && n0 == n0) m4 fun i => encWq ((w :: l).getD (Int.toNat 1 + i) wd0)))) (clG (AVal.list (f && n0 == n0) m4 fun i => encWq ((w :: l).getD (Int.toNat 1 + i) wd0)))) else bif m7 == 0 then bif ah then bif !bif decide (1 ≥ n5) then decide (1 ≤ n6) else false then k (Out.panic z2 []) else k (Out.ret (AVal.agg [AVal.str w.text, AVal.list true 0 fun (x : Nat) => []]) []) else bif !bif decide (0 ≥ n5) then decide (0 ≤ n6) else false then k (Out.panic z2 []) else k (Out.ret (AVal.agg [AVal.str w.text, AVal.list true 0 fun (x : Nat) => []]) []) else bif ah then bif !bif decide (n9 ≥ n5) then decide (n9 ≤ n6) else false then k (Out.panic z2 [Obj.arr 5 (clRows (AVal.list (f && n0 == n0) m4 fun i => encWq ((w :: l).getD (Int.toNat 1 + i) wd0))) m10]) else k (Out.ret z3 [Obj.arr 5 (clRows (AVal.list (f && n0 == n0) m4 fun i => encWq ((w :: l).getD (Int.toNat 1 + i) wd0))) m10]) else bif !bif decide (n8 ≥ n5) then decide (n8 ≤ n6) else false then k (Out.panic z2 [Obj.arr 5 (clRows (AVal.list (f && n0 == n0) m4 fun i => encWq ((w :: l).getD (Int.toNat 1 + i) wd0))) m10]) else k (Out.ret z3 [Obj.arr 5 (clRows (AVal.list (f && n0 == n0) m4 fun i => encWq ((w :: l).getD (Int.toNat 1 + i) wd0))) m10]) else none else none else none) := by
  subst e_n0 e_n1 e_m2 e_n3 e_m4 e_n5 e_n6 e_m7 e_n8 e_n9 e_m10
  kernel_rfl
def isName (w : WdD) : Bool := !bif w.kind != 1 then true else decide (constM w.text ≥ 0)
def calE (w : WdD) (r : List WdD) (ah : Bool) : Option (Nat × Int) :=
 bif isName w then
  bif !(ar w.text).2.2 then some (w.at_, 31) else
  match (argsM r).2 with
  | some e => some e
  | none => bif decide ((((argsM r).1.length + (bif ah then 1 else 0) : Nat) : Int) ≥ (ar w.text).1) && decide ((((argsM r).1.length + (bif ah then 1 else 0) : Nat) : Int) ≤ (ar w.text).2.1) then none else some (w.at_, 3)
 else
  bif ah then some (w.at_, 33) else bif argE w == 0 then (match r with | [] => none | x :: _ => some (x.at_, 33)) else some (w.at_, argE w)
def calC (w : WdD) (r : List WdD) : CallD := bif isName w then ⟨w.text, false, (argsM r).1⟩ else ⟨[], false, [argA w]⟩
theorem freeze_call (l : List ArgD) (u : Nat) (s : Oc) : freezeV [.arr 5 (l.map encArg) u] 5 (.agg [.str s, .own 0 0 l.length u false]) = some (.agg [.str s, .list false l.length (fun i => (l.map encArg).getD i [])]) := by
 have h1 : freezeV [.arr 5 (l.map encArg) u] 4 (.own 0 0 l.length u false) = some (.list false l.length (fun i => (l.map encArg).getD i [])) :=
  freezeW (sz := 5) (rows := l.map encArg) (rows' := l.map encArg) rfl (by simp) (by
   rw [List.drop_zero, List.take_of_length_le (by simp)]
   exact freeze_pures _ 2 _ (fun r hr => by
    obtain ⟨a, _, rfl⟩ := List.mem_map.1 hr
    rfl))
 show ([AVal.str s, .own 0 0 l.length u false].mapM (freezeV [.arr 5 (l.map encArg) u] 4)).map AVal.agg = _
 rw [List.mapM_cons, List.mapM_cons, h1]
 rfl
theorem sub_call (l : List ArgD) (s : Oc) : Sub (.agg [.str s, .list false l.length (fun i => (l.map encArg).getD i [])]) (.agg (encCall ⟨s, false, l⟩)) := by
 refine .agg (.cons (.refl _) (.cons (Sub.list (fun h => h) (fun i hi => ?_)) .nil))
 have : (l.map encArg).getD i [] = encArg (l.getD i argD0) := by
  rw [gQ, gQ, List.getElem?_map, List.getElem?_eq_getElem hi]
  rfl
 rw [this]
 exact .refl _
theorem decWqs_enc (f : Bool) (r : List WdD) : decL decWq (AVal.list f r.length fun i => encWq (r.getD i wd0)) = r := decL_encL decWq_enc r
theorem cal_ok (f : Bool) (w : WdD) (r : List WdD) (ah : Bool) (hl : r.length ≤ 67108864) (hw : okWd w) (hr : ∀ x ∈ r, okWd x) :
 CallOK Tryz.prog 88 [encWqs f (w :: r), .bool ah] [] (match calE w r ah with | some e => .panic (fltP e.1 e.2) [] | none => .ret (.agg (encCall (calC w r))) []) := by
 have g1 : ∀ i, (w :: r).getD (Int.toNat 1 + i) wd0 = r.getD i wd0 := fun i => by
  rw [show Int.toNat 1 + i = i + 1 from Nat.add_comm _ _]; rfl
 have dX := decWqs_enc f r
 have n0 : ((w :: r).length : Int) = (r.length : Int) + 1 := by simp
 have key := fun k => cal_fun f w r ah k ((r.length : Int) + 1) n0.symm (w.at_ : Int) rfl w.at_ (Int.toNat_natCast _).symm (w.at_ : Int) rfl r.length (by omega) _ rfl _ rfl _ rfl _ rfl _ rfl _ rfl
 simp only [g1, beq_self_eq_true, Bool.and_true] at key
 have c1 : encWqsR (AVal.list f r.length fun i => encWq (r.getD i wd0)) = AVal.list f r.length fun i => encWq (r.getD i wd0) := by unfold encWqsR; rw [dX]; rfl
 have c2 : lenWqR (AVal.list f r.length fun i => encWq (r.getD i wd0)) = r.length := by unfold lenWqR; rw [dX]
 have c3 : clBad (AVal.list f r.length fun i => encWq (r.getD i wd0)) = (argsM r).2.isSome := by unfold clBad; rw [dX]
 have c4 : clNum (AVal.list f r.length fun i => encWq (r.getD i wd0)) = (argsM r).1.length := by unfold clNum; rw [dX]
 have c5 : clRows (AVal.list f r.length fun i => encWq (r.getD i wd0)) = (argsM r).1.map encArg := by unfold clRows; rw [dX]
 have c6 : clOk (AVal.list f r.length fun i => encWq (r.getD i wd0)) := ⟨by rw [c2]; omega, by rw [dX]; exact hr⟩
 have c7 : clAt (AVal.list f r.length fun i => encWq (r.getD i wd0)) = (((argsM r).2.getD (0, 0)).1 : Int) := by unfold clAt; rw [dX]
 have c8 : clErr (AVal.list f r.length fun i => encWq (r.getD i wd0)) = ((argsM r).2.getD (0, 0)).2 := by unfold clErr; rw [dX]
 have c9 : clG (AVal.list f r.length fun i => encWq (r.getD i wd0)) = gH 5 encArg (argsM r).1 := by unfold clG; rw [dX]
 have al : (argsM r).1.length ≤ r.length := by
  clear key c1 c2 c3 c4 c5 c6 c7 c8 c9 dX g1 n0 hl hr
  induction r with
  | nil => exact Nat.le_refl _
  | cons x r ih =>
   rw [argsM]
   cases argE x == 0
   · simp
   · simpa using ih
 have e1 : IntKind.i64.wrap (((argsM r).1.length : Int) + 1) = (((argsM r).1.length + 1 : Nat) : Int) := wrap_add1 (by omega)
 simp only [c1, c2, c3, c4, c5, c7, c8, c9, e1, dT (show (0 : Int) < (r.length : Int) + 1 by omega), dT (show (1 : Int) ≤ (r.length : Int) + 1 by omega), dT (show (r.length : Int) + 1 ≤ (r.length : Int) + 1 by omega), cond_true, Bool.and_self, Bool.not_not] at key
 unfold calE calC isName
 cases hb : bif w.kind != 1 then true else decide (constM w.text ≥ 0) with
 | true =>
  simp only [hb, cond_true, Bool.not_true, cond_false] at key ⊢
  cases ah with
  | true => exact layCl2_ok.call key
  | false =>
   have r1 : wdR [AVal.agg [AVal.int .i64 w.kind, AVal.str w.text, AVal.int .i64 (w.at_ : Int)]] = encWq w := rfl
   simp only [r1, cond_false] at key ⊢
   have t1 : tst (wdOkR (encWq w) ∧ SubL [AVal.agg [AVal.int .i64 w.kind, AVal.str w.text, AVal.int .i64 (w.at_ : Int)]] [wdEncR (encWq w)] ∧ True) = true := tst_true ⟨hw, .refl _, trivial⟩
   simp only [t1, cond_true] at key
   have t2 : wdER (encWq w) = (argE w == 0) := rfl
   rw [t2] at key
   cases h0 : argE w == 0 with
   | false =>
    simp only [h0, cond_false] at key ⊢
    exact layCl2_ok.call key
   | true =>
    simp only [h0, cond_true] at key ⊢
    cases r with
    | nil =>
     simp only [List.length_nil] at key
     exact (layCl2_ok.callF (G := []) rfl key).sub (.refl _) ⟨.agg (.cons (.refl _) (.cons (Sub.list (fun h => by cases h) (fun i hi => by
      obtain rfl : i = 0 := by omega
      exact .refl _)) .nil)), rfl⟩
    | cons x r =>
     simp only [List.length_cons, dT (show ((r.length + 1 : Nat) : Int) + 1 > 1 by omega), dT (show (1 : Int) < ((r.length + 1 : Nat) : Int) + 1 by omega), cond_true] at key
     exact layCl2_ok.call key
 | false =>
  simp only [hb, cond_false, Bool.not_false, cond_true] at key ⊢
  cases h2 : (ar w.text).2.2 with
  | false =>
   simp only [h2, Bool.not_false, cond_true] at key ⊢
   exact layCl2_ok.call key
  | true =>
   simp only [h2, Bool.not_true, cond_false] at key ⊢
   replace key := fun k => (key k).trans ((congrArg (fun c => cond c _ none) (tst_true ⟨c6, .refl _, by first | trivial | rfl, trivial⟩)).trans (cond_true _ _))
   cases h3 : (argsM r).2 with
   | some e =>
    simp only [h3, Option.isSome_some, cond_true, Option.getD_some] at key ⊢
    have hc := layCl2_ok.call key
    cases ha : (argsM r).1 with
    | nil => rw [ha] at hc; exact hc
    | cons a t => rw [ha] at hc; exact CallOK.shrinkP (H := []) (H' := []) hc (Nat.le_refl _) rfl (fun x hx => by cases hx)
   | none =>
    simp only [h3, Option.isSome_none, cond_false, bif_and] at key ⊢
    cases hA : (argsM r).1 with
    | nil =>
     simp only [hA, List.length_nil, beq_self_eq_true, cond_true] at key ⊢
     have nl : Sub (.agg [.str w.text, nilList]) (.agg (encCall ⟨w.text, false, []⟩)) := .agg (.cons (.refl _) (.cons (Sub.list (fun h => by cases h) (fun i hi => by omega)) .nil))
     cases ah with
     | true =>
      have e : (decide (((0 + (bif true then 1 else 0) : Nat) : Int) ≥ (ar w.text).1) && decide (((0 + (bif true then 1 else 0) : Nat) : Int) ≤ (ar w.text).2.1)) = (decide ((1 : Int) ≥ (ar w.text).1) && decide ((1 : Int) ≤ (ar w.text).2.1)) := rfl
      rw [e]
      simp only [cond_true] at key
      cases hc : decide ((1 : Int) ≥ (ar w.text).1) && decide ((1 : Int) ≤ (ar w.text).2.1) with
      | true => simp only [hc, Bool.not_true, cond_false] at key; exact (layCl2_ok.callF (G := []) rfl key).sub (.refl _) ⟨nl, rfl⟩
      | false => simp only [hc, Bool.not_false, cond_true] at key; exact layCl2_ok.call key
     | false =>
      have e : (decide (((0 + (bif false then 1 else 0) : Nat) : Int) ≥ (ar w.text).1) && decide (((0 + (bif false then 1 else 0) : Nat) : Int) ≤ (ar w.text).2.1)) = (decide ((0 : Int) ≥ (ar w.text).1) && decide ((0 : Int) ≤ (ar w.text).2.1)) := rfl
      rw [e]
      simp only [cond_false] at key
      cases hc : decide ((0 : Int) ≥ (ar w.text).1) && decide ((0 : Int) ≤ (ar w.text).2.1) with
      | true => simp only [hc, Bool.not_true, cond_false] at key; exact (layCl2_ok.callF (G := []) rfl key).sub (.refl _) ⟨nl, rfl⟩
      | false => simp only [hc, Bool.not_false, cond_true] at key; exact layCl2_ok.call key
    | cons a t =>
     have fz := freeze_call (a :: t) t.length w.text
     have fs := sub_call (a :: t) w.text
     have ne : ((a :: t).length == 0) = false := rfl
     simp only [hA, ne, cond_false] at key ⊢
     cases ah with
     | true =>
      have e : (((a :: t).length + (bif true then 1 else 0) : Nat) : Int) = (((a :: t).length + 1 : Nat) : Int) := rfl
      rw [e]
      simp only [cond_true] at key
      cases hc : decide ((((a :: t).length + 1 : Nat) : Int) ≥ (ar w.text).1) && decide ((((a :: t).length + 1 : Nat) : Int) ≤ (ar w.text).2.1) with
      | true =>
       simp only [hc, Bool.not_true, cond_false] at key
       exact ((layCl2_ok.call key).freeze (d := 5) fz).sub (.refl _) ⟨fs, rfl⟩
      | false =>
       simp only [hc, Bool.not_false, cond_true] at key
       exact CallOK.shrinkP (H := []) (H' := []) (layCl2_ok.call key) (Nat.le_refl _) rfl (fun x hx => by cases hx)
     | false =>
      have e : (((a :: t).length + (bif false then 1 else 0) : Nat) : Int) = (((a :: t).length : Nat) : Int) := rfl
      rw [e]
      simp only [cond_false] at key
      cases hc : decide ((((a :: t).length : Nat) : Int) ≥ (ar w.text).1) && decide ((((a :: t).length : Nat) : Int) ≤ (ar w.text).2.1) with
      | true =>
       simp only [hc, Bool.not_true, cond_false] at key
       exact ((layCl2_ok.call key).freeze (d := 5) fz).sub (.refl _) ⟨fs, rfl⟩
      | false =>
       simp only [hc, Bool.not_false, cond_true] at key
       exact CallOK.shrinkP (H := []) (H' := []) (layCl2_ok.call key) (Nat.le_refl _) rfl (fun x hx => by cases hx)
end Go.Mu
namespace Go.Mu
open Go Go.Proofs
def isSig (w : WdD) : Bool := w.kind == 6
def idxW (l : List WdD) : Int := bif l.any isSig then ((l.findIdx isSig : Nat) : Int) else -1
def idxWR (x : AVal) : Int := idxW (decL decWq x)
abbrev idxF : FuncId := 86
abbrev sigF : FuncId := 87
structure IwA where
 x : AVal
 H : Heap
def iwAny (x : AVal) : Bool := (decL decWq x).any isSig
def iwIdx (x : AVal) : Nat := (decL decWq x).findIdx isSig
noncomputable def iwSp : LSp := mkL (fun vs _ H => IwA.mk (vs.getD 0 .undef) H) (fun a => lenWqR a.x ≤ 1099511627776) (fun a => [encWqsR a.x, .func sigF [], .int .i64 (lenWqR a.x : Nat), .int .i64 0]) (fun _ => []) (fun a => a.H)
 (fun a k => cond (iwAny a.x) (k .ret [.int .i64 (iwIdx a.x : Nat)] [] a.H) (k (.exit 0) [.undef] [] a.H))
noncomputable def iwFH : FH := .of [(2, loopSpec 19 [0,1,7,8] [] [4] [] iwSp)]
noncomputable abbrev iwTurn := lturn Tryz.prog Lay.nil iwFH idxF 2 [0,1,7,8] [] [4] []
theorem iw_step (f : Bool) (l : List WdD) (n i : Int) (H : Heap) (D : Dfs) (k : Kont) : iwTurn (stL 19 [0,1,7,8] [encWqs f l, .func sigF [], .int .i64 n, .int .i64 i] [] [] H D) k = (
 bif decide (i < n) then
 bif decide (0 ≤ i) && decide (i < (l.length : Int)) then
 bif isSig (l.getD i.toNat wd0) then k .ret (stL 19 [4] [.int .i64 i] [] [] H D)
 else k .normal (stL 19 [0,1,7,8] [encWqs f l, .func sigF [], .int .i64 n, .int .i64 (IntKind.i64.wrap (i + 1))] [] [] H D)
 else none
 else k (.exit 0) (stL 19 [4] [.undef] [] [] H D)) := by kernel_rfl
theorem iwSp_ok : SpOK iwTurn 19 [0,1,7,8] [] [4] [] iwSp := mkL_ok fun a h => by
 obtain ⟨x, H⟩ := a
 replace h : (decL decWq x).length ≤ 1099511627776 := h
 have hrun : ∀ (f : Bool) (l : List WdD), l.length ≤ 1099511627776 → ∀ D k, rounds iwTurn (l.length + 1) (stL 19 [0,1,7,8] [encWqs f l, .func sigF [], .int .i64 l.length, .int .i64 0] [] [] H D) k = cond (l.any isSig) (k .ret (stL 19 [4] [.int .i64 (l.findIdx isSig : Nat)] [] [] H D)) (k (.exit 0) (stL 19 [4] [.undef] [] [] H D)) := by
  intro f l hl D k
  have := search_find (turn := iwTurn) (S := fun i => stL 19 [0,1,7,8] [encWqs f l, .func sigF [], .int .i64 l.length, .int .i64 (i : Nat)] [] [] H D) (hit := fun i => isSig (l.getD i wd0)) (n := l.length) (e0 := .exit 0) (e1 := .ret)
   (R0 := stL 19 [4] [.undef] [] [] H D) (R1 := fun i => stL 19 [4] [.int .i64 (i : Nat)] [] [] H D) (fun i k hi => by
    rw [iw_step, dT (show (i : Int) < l.length by omega), dT (show (0 : Int) ≤ i by omega), wrap_add1 (by omega)]; rfl) (fun k => by rw [iw_step, dF (by omega)]; rfl) (by simp) (by simp) k
  rw [find_getD isSig] at this
  refine Eq.trans this ?_
  cases l.any isSig <;> rfl
 have hr := hrun (fullOf x) (decL decWq x) h
 show ∃ e vs bs H', (∀ k : AExit → Vs → List Vs → Heap → Ans, cond (iwAny x) _ _ = k e vs bs H') ∧ _
 cases ha : (decL decWq x).any isSig with
 | true =>
  have : iwAny x = true := ha
  rw [this]
  exact ⟨_, _, _, _, fun k => rfl, _, fun D k => (hr D k).trans (by rw [ha]; rfl)⟩
 | false =>
  have : iwAny x = false := ha
  rw [this]
  exact ⟨_, _, _, _, fun k => rfl, _, fun D k => (hr D k).trans (by rw [ha]; rfl)⟩
noncomputable def layIw : Lay := Lay.nil.addL idxF iwFH
theorem layIw_ok : layIw.OK Tryz.prog := Lay.nil_ok.loop1 (id := 2) (by kernel_rfl) (by kernel_rfl) (by kernel_rfl) iwSp_ok
theorem iw_fun (f : Bool) (l : List WdD) (k : Out → Ans) : iFun Tryz.prog (layIw.hd Tryz.prog) layIw.fhs 0 86 [encWqs f l, .func sigF []] [] k = (
 let m0 : Nat := lenWqR (AVal.list f l.length fun i => encWq (l.getD i wd0));
  bif tst (m0 ≤ 1099511627776 ∧ SubTL [AVal.list f l.length fun i => encWq (l.getD i wd0), AVal.func 87 [], AVal.int .i64 (↑l.length : Int), AVal.int .i64 0] [encWqsR (AVal.list f l.length fun i => encWq (l.getD i wd0)), AVal.func 87 [], AVal.int .i64 (↑m0 : Int), AVal.int .i64 0] ∧ ([] : List Vs) = [] ∧ ([] : Heap) = []) then bif iwAny (AVal.list f l.length fun i => encWq (l.getD i wd0)) then k (Out.ret (AVal.int .i64 (↑(iwIdx (AVal.list f l.length fun i => encWq (l.getD i wd0))) : Int)) []) else k (Out.ret (AVal.int .i64 (-1)) []) else none) := by kernel_rfl
theorem encWqsR_enc (f : Bool) (l : List WdD) : encWqsR (AVal.list f l.length fun i => encWq (l.getD i wd0)) = AVal.list f l.length fun i => encWq (l.getD i wd0) := by
 unfold encWqsR; rw [decWqs_enc]; rfl
theorem iw_ok (f : Bool) (l : List WdD) (h : l.length ≤ 1099511627776) : CallOK Tryz.prog idxF [encWqs f l, .func sigF []] [] (.ret (.int .i64 (idxW l)) []) := by
 have d := decWqs_enc f l
 have e1 : lenWqR (AVal.list f l.length fun i => encWq (l.getD i wd0)) = l.length := by unfold lenWqR; rw [d]
 have e2 := encWqsR_enc f l
 have e3 : iwAny (AVal.list f l.length fun i => encWq (l.getD i wd0)) = l.any isSig := by unfold iwAny; rw [d]
 have e4 : iwIdx (AVal.list f l.length fun i => encWq (l.getD i wd0)) = l.findIdx isSig := by unfold iwIdx; rw [d]
 refine layIw_ok.callF (G := []) rfl (fun k => (iw_fun f l k).trans ?_)
 simp only [e1, e2, e3, e4]
 refine (congrArg (fun c => cond c _ none) (tst_true ⟨h, .refl _, trivial, trivial⟩)).trans ?_
 unfold idxW
 cases l.any isSig <;> rfl
noncomputable def iwTold : FSp := mkF (fun xs H => (xs.getD 0 .undef)) (fun x => lenWqR x ≤ 1099511627776) (fun x => [encWqsR x, .func sigF []]) (fun _ => []) (fun x k => k (.ret (.int .i64 (idxWR x)) []))
theorem iwTold_ok : ∀ xs H k out, iwTold xs H k = some out → ∃ o, CallOK Tryz.prog idxF xs H o ∧ k o = some out := mkF_ok fun x h => ⟨_, fun k => rfl, iw_ok _ _ h⟩
def hdW (l : List WdD) : WdD := l.headD wd0
structure CaA where
 x : AVal
 ah : Bool
def caOk (x : AVal) : Prop := decL decWq x ≠ [] ∧ (decL decWq x).length ≤ 67108864 ∧ ∀ w ∈ decL decWq x, okWd w
def caE (x : AVal) (ah : Bool) : Option (Nat × Int) := calE (hdW (decL decWq x)) (decL decWq x).tail ah
def caBad (x : AVal) (ah : Bool) : Bool := (caE x ah).isSome
def caAt (x : AVal) (ah : Bool) : Int := (((caE x ah).getD (0, 0)).1 : Int)
def caErr (x : AVal) (ah : Bool) : Int := ((caE x ah).getD (0, 0)).2
def caC (x : AVal) : CallD := calC (hdW (decL decWq x)) (decL decWq x).tail
noncomputable def caTold : FSp := mkF (fun xs H => CaA.mk (xs.getD 0 .undef) (aB xs 1)) (fun a => caOk a.x) (fun a => [encWqsR a.x, .bool a.ah]) (fun _ => [])
 (fun a k => cond (caBad a.x a.ah) (k (.panic (fltP (caAt a.x a.ah) (caErr a.x a.ah)) [])) (k (.ret (.agg (encCall (caC a.x))) [])))
theorem caTold_ok : ∀ xs H k out, caTold xs H k = some out → ∃ o, CallOK Tryz.prog 88 xs H o ∧ k o = some out := mkF_ok fun a h => by
 obtain ⟨x, ah⟩ := a
 obtain ⟨h1, h2, h3⟩ := h
 simp only at h1 h2 h3
 obtain ⟨w, r, hx⟩ : ∃ w r, decL decWq x = w :: r := by
  cases hd : decL decWq x with
  | nil => exact absurd hd h1
  | cons w r => exact ⟨w, r, rfl⟩
 rw [hx] at h2 h3
 have key := cal_ok (fullOf x) w r ah (by rw [List.length_cons] at h2; omega) (h3 w (by simp)) (fun y hy => h3 y (by simp [hy]))
 have he : caE x ah = calE w r ah := by unfold caE; rw [hx]; rfl
 have hc : caC x = calC w r := by unfold caC; rw [hx]; rfl
 have hxx : [encWqsR x, AVal.bool ah] = [encWqs (fullOf x) (w :: r), .bool ah] := by unfold encWqsR; rw [hx]
 show ∃ o, (∀ k : Out → Ans, cond (caBad x ah) _ _ = k o) ∧ CallOK _ _ [encWqsR x, AVal.bool ah] [] o
 rw [hxx]
 cases hb : calE w r ah with
 | some e =>
  rw [hb] at key
  have b1 : caBad x ah = true := by unfold caBad; rw [he, hb]; rfl
  have b2 : caAt x ah = e.1 := by unfold caAt; rw [he, hb]; rfl
  have b3 : caErr x ah = e.2 := by unfold caErr; rw [he, hb]; rfl
  rw [b1, b2, b3]
  exact ⟨_, fun k => rfl, key⟩
 | none =>
  rw [hb] at key
  have b1 : caBad x ah = false := by unfold caBad; rw [he, hb]; rfl
  rw [b1, hc]
  exact ⟨_, fun k => rfl, key⟩
noncomputable def layPa : Lay := (Lay.nil.addF idxF iwTold).addF 88 caTold
theorem layPa_ok : layPa.OK Tryz.prog := (Lay.nil_ok.addF iwTold_ok).addF caTold_ok
def paFH0 : FH := { heap := [4,5,6], hoist := true }
abbrev paV (at_ : Int) : Vs := [.int .i64 at_, .ptr (.hp 0) 0, .ptr (.hp 1) 0, .ptr (.hp 2) 0]
abbrev paH (x : AVal) : Heap := [.var [x], .var [.int .i64 0], .var [.int .i64 0]]
noncomputable abbrev paTurn := lturn Tryz.prog layPa paFH0 64 3 [0,1,4,5,6] [] [1,4,5,6] []
abbrev paX (l : List WdD) (f : Bool) (m : Int) : AVal := AVal.list f (m - 0).toNat fun (i : Nat) => encWq (l.getD (Int.toNat 0 + i) wd0)
noncomputable def paBody (f : Bool) (l : List WdD) (at_ : Int) (D : Dfs) (k : Kont) (ah : Bool) (H : Heap) (G : Ans → Ans) (H2 : Vs → Heap) (f' : Bool) (m : Int) : Ans :=
 bif tst (caOk (paX l f' m) ∧ SubL [paX l f' m, .bool ah] [encWqsR (paX l f' m), .bool ah] ∧ ([] : Heap) = []) then
  bif caBad (paX l f' m) ah then k (.panic (fltP (caAt (paX l f' m) ah) (caErr (paX l f' m) ah))) (stL 82 [1,4,5,6] (paV at_) [] [] H D)
  else bif decide (0 < (l.length : Int)) then G (
   bif m == (l.length : Int) then k (.exit 0) (stL 82 [1,4,5,6] (paV at_) [] [] (H2 (encCall (caC (paX l f' m)))) D)
   else bif decide (0 ≤ m) && decide (m < (l.length : Int)) then
    bif decide (0 ≤ m) && decide (m < (l.length : Int)) then
     bif !(l.getD m.toNat wd0).text == [124] then k (.panic (fltP (l.getD m.toNat wd0).at_ 33)) (stL 82 [1,4,5,6] (paV at_) [] [] (H2 (encCall (caC (paX l f' m)))) D)
     else bif !decide (IntKind.i64.wrap (m + 1) < (l.length : Int)) then k (.panic (fltP at_ 33)) (stL 82 [1,4,5,6] (paV at_) [] [] (H2 (encCall (caC (paX l f' m)))) D)
     else bif decide (0 ≤ IntKind.i64.wrap (m + 1)) && decide (IntKind.i64.wrap (m + 1) ≤ (l.length : Int)) && decide ((l.length : Int) ≤ (l.length : Int)) then
      k .normal (stL 82 [0,1,4,5,6] ((AVal.list (f && (l.length : Int) == (l.length : Int)) ((l.length : Int) - IntKind.i64.wrap (m + 1)).toNat fun (i : Nat) => encWq (l.getD ((IntKind.i64.wrap (m + 1)).toNat + i) wd0)) :: paV at_) [] [] (H2 (encCall (caC (paX l f' m)))) D)
     else none
    else none
   else none)
  else none
 else none
noncomputable def paAll (f : Bool) (l : List WdD) (at_ : Int) (D : Dfs) (k : Kont) (ah : Bool) (H : Heap) (G : Ans → Ans) (H2 : Vs → Heap) : Ans :=
 bif decide ((l.length : Int) > 0) then
  bif decide (0 < (l.length : Int)) then
   bif decide (0 < (l.length : Int)) then
    bif !(l.getD 0 wd0).kind != 6 then k (.panic (fltP (l.getD 0 wd0).at_ 33)) (stL 82 [1,4,5,6] (paV at_) [] [] H D)
    else bif tst (lenWqR (AVal.list f l.length fun i => encWq (l.getD i wd0)) ≤ 1099511627776 ∧ SubL [AVal.list f l.length fun i => encWq (l.getD i wd0), AVal.func sigF []] [encWqsR (AVal.list f l.length fun i => encWq (l.getD i wd0)), AVal.func sigF []] ∧ ([] : Heap) = []) then
     bif decide (idxWR (AVal.list f l.length fun i => encWq (l.getD i wd0)) < 0) then
      bif decide ((l.length : Int) ≤ (l.length : Int)) then paBody f l at_ D k ah H G H2 (f && (l.length : Int) == (l.length : Int)) (l.length : Int) else none
     else bif decide (0 ≤ idxWR (AVal.list f l.length fun i => encWq (l.getD i wd0))) && decide (idxWR (AVal.list f l.length fun i => encWq (l.getD i wd0)) ≤ (l.length : Int)) then
      paBody f l at_ D k ah H G H2 (f && idxWR (AVal.list f l.length fun i => encWq (l.getD i wd0)) == (l.length : Int)) (idxWR (AVal.list f l.length fun i => encWq (l.getD i wd0))) else none
    else none
   else none
  else none
 else k (.exit 0) (stL 82 [1,4,5,6] (paV at_) [] [] H D)
theorem pa_s0 (f : Bool) (l : List WdD) (at_ : Int) (D : Dfs) (k : Kont) : paTurn (stL 82 [0,1,4,5,6] (encWqs f l :: paV at_) [] [] (paH nilList) D) k =
 paAll f l at_ D k false (paH nilList) (fun x => x) (fun r => paH (.own 3 0 (0 + 1) 0 false) ++ [.arr 2 [r] 0]) := by kernel_rfl
theorem pa_s1 (f : Bool) (l : List WdD) (at_ : Int) (q v : Nat) (rows : List Vs) (D : Dfs) (k : Kont) : paTurn (stL 82 [0,1,4,5,6] (encWqs f l :: paV at_) [] [] (paH (.own 3 0 q v false) ++ [.arr 2 rows v]) D) k =
 paAll f l at_ D k (decide ((q : Int) > 0)) (paH (.own 3 0 q v false) ++ [.arr 2 rows v]) (fun x => bif !decide ((q : Int) < 16) then k (.panic (fltP (l.getD 0 wd0).at_ 3)) (stL 82 [1,4,5,6] (paV at_) [] [] (paH (.own 3 0 q v false) ++ [.arr 2 rows v]) D) else bif v == v && q == rows.length && decide ((2 * (q + 1) + 1000) * 40 ≤ 281474976710656) && true then x else none) (fun r => paH (.own 3 0 (q + 1) (v + 1) false) ++ [.arr 2 (rows ++ [r]) (v + 1)]) := by kernel_rfl
def pPos (l : List WdD) : Nat := l.findIdx isSig
def paC (l : List WdD) : CallD := calC (hdW (l.take (pPos l))) (l.take (pPos l)).tail
def paE (l : List WdD) (ah : Bool) : Option (Nat × Int) := calE (hdW (l.take (pPos l))) (l.take (pPos l)).tail ah
noncomputable def paM (f : Bool) (l : List WdD) (at_ : Int) (D : Dfs) (k : Kont) (ah : Bool) (H : Heap) (G : Ans → Ans) (H2 : Vs → Heap) : Ans :=
 bif (hdW l).kind == 6 then k (.panic (fltP (hdW l).at_ 33)) (stL 82 [1,4,5,6] (paV at_) [] [] H D) else
 match paE l ah with
 | some e => k (.panic (fltP e.1 e.2)) (stL 82 [1,4,5,6] (paV at_) [] [] H D)
 | none => G (bif pPos l == l.length then k (.exit 0) (stL 82 [1,4,5,6] (paV at_) [] [] (H2 (encCall (paC l))) D) else
  bif !(l.getD (pPos l) wd0).text == [124] then k (.panic (fltP (l.getD (pPos l) wd0).at_ 33)) (stL 82 [1,4,5,6] (paV at_) [] [] (H2 (encCall (paC l))) D) else
  bif !decide (pPos l + 1 < l.length) then k (.panic (fltP at_ 33)) (stL 82 [1,4,5,6] (paV at_) [] [] (H2 (encCall (paC l))) D) else
  k .normal (stL 82 [0,1,4,5,6] (encWqs f (l.drop (pPos l + 1)) :: paV at_) [] [] (H2 (encCall (paC l))) D))
theorem paX_dec (l : List WdD) (f : Bool) (p : Nat) (hp : p ≤ l.length) : decL decWq (paX l f (p : Int)) = l.take p := by
 have h : ∀ i, decWq (encWq (l.getD (Int.toNat 0 + i) wd0)) = l.getD i wd0 := fun i => by
  rw [show Int.toNat 0 + i = i from Nat.zero_add i]; rfl
 unfold paX
 simp only [decL, h]
 have e : ((p : Int) - 0).toNat = p := by omega
 rw [e]
 have h2 : ∀ i ∈ List.range p, l.getD i wd0 = (l.take p).getD i wd0 := fun i hi => by
  rw [List.mem_range] at hi
  rw [gQ, gQ, List.getElem?_take, if_pos hi]
 rw [List.map_congr_left h2]
 have := range_getD (l.take p) wd0
 rw [List.length_take, Nat.min_eq_left hp] at this
 exact this
theorem paX_enc (ah : Bool) (l : List WdD) (f : Bool) (p : Nat) (hp : p ≤ l.length) : SubL [paX l f (p : Int), .bool ah] [encWqsR (paX l f (p : Int)), .bool ah] := by
 refine .cons ?_ (.cons (.refl _) .nil)
 unfold encWqsR
 rw [paX_dec l f p hp]
 have e : ((p : Int) - 0).toNat = p := by omega
 show Sub (AVal.list f ((p : Int) - 0).toNat fun (i : Nat) => encWq (l.getD (Int.toNat 0 + i) wd0)) (AVal.list f (l.take p).length fun (i : Nat) => encWq ((l.take p).getD i wd0))
 rw [e, List.length_take, Nat.min_eq_left hp]
 refine Sub.list (fun h => h) (fun i hi => ?_)
 have h : l.getD (Int.toNat 0 + i) wd0 = (l.take p).getD i wd0 := by
  rw [show Int.toNat 0 + i = i from Nat.zero_add i, gQ, gQ, List.getElem?_take, if_pos hi]
 rw [h]
 exact .refl _
theorem pPos_le (l : List WdD) : pPos l ≤ l.length := List.findIdx_le_length
theorem pPos_any (l : List WdD) : l.any isSig = decide (pPos l < l.length) := by
 unfold pPos
 rw [Bool.eq_iff_iff, decide_eq_true_eq, List.any_eq_true, List.findIdx_lt_length]
theorem paBody_eq (f : Bool) (l : List WdD) (at_ : Int) (D : Dfs) (k : Kont) (ah : Bool) (H : Heap) (G : Ans → Ans) (H2 : Vs → Heap) (f' : Bool) (hl : l.length ≤ 67108864) (hw : ∀ w ∈ l, okWd w) (hp0 : 0 < pPos l) (h6 : ((hdW l).kind == 6) = false) :
 paBody f l at_ D k ah H G H2 f' (pPos l : Int) = paM f l at_ D k ah H G H2 := by
 have hp := pPos_le l
 have dX := paX_dec l f' (pPos l) hp
 have hne : l.take (pPos l) ≠ [] := by
  intro h
  have := congrArg List.length h
  rw [List.length_take, List.length_nil] at this
  omega
 have c1 : caOk (paX l f' (pPos l : Int)) := ⟨by rw [dX]; exact hne, by rw [dX, List.length_take]; omega, by rw [dX]; exact fun w h => hw w (List.mem_of_mem_take h)⟩
 have c2 : caE (paX l f' (pPos l : Int)) ah = paE l ah := by unfold caE paE; rw [dX]
 have c3 : caC (paX l f' (pPos l : Int)) = paC l := by unfold caC paC; rw [dX]
 unfold paBody paM
 rw [tst_true ⟨c1, paX_enc ah l f' (pPos l) hp, rfl⟩, cond_true, h6, cond_false, c3]
 cases he : paE l ah with
 | some e =>
  have b1 : caBad (paX l f' (pPos l : Int)) ah = true := by unfold caBad; rw [c2, he]; rfl
  have b2 : caAt (paX l f' (pPos l : Int)) ah = e.1 := by unfold caAt; rw [c2, he]; rfl
  have b3 : caErr (paX l f' (pPos l : Int)) ah = e.2 := by unfold caErr; rw [c2, he]; rfl
  rw [b1, b2, b3]; rfl
 | none =>
  have b1 : caBad (paX l f' (pPos l : Int)) ah = false := by unfold caBad; rw [c2, he]; rfl
  have e0 : IntKind.i64.wrap ((pPos l : Int) + 1) = ((pPos l + 1 : Nat) : Int) := wrap_add1 (by omega)
  have e1 : ((pPos l : Int) == (l.length : Int)) = (pPos l == l.length) := by rw [Bool.eq_iff_iff, beq_iff_eq, beq_iff_eq]; omega
  rw [b1, cond_false, dT (show (0 : Int) < l.length by omega), cond_true, e0, e1, dT (show (0 : Int) ≤ pPos l by omega)]
  congr 1
  cases hq : pPos l == l.length with
  | true => rfl
  | false =>
   have hlt : pPos l < l.length := by
    have : pPos l ≠ l.length := by simpa using hq
    omega
   rw [dT (show (pPos l : Int) < l.length by omega), Int.toNat_natCast, Int.toNat_natCast]
   simp only [cond_false, Bool.and_self, cond_true]
   cases (l.getD (pPos l) wd0).text == [124] with
   | false => rfl
   | true =>
    simp only [Bool.not_true, cond_false]
    by_cases h1 : pPos l + 1 < l.length
    · have e3 : ((l.length : Int) - ((pPos l + 1 : Nat) : Int)).toNat = (l.drop (pPos l + 1)).length := by rw [List.length_drop]; omega
      have e4 : (fun i => encWq (l.getD (pPos l + 1 + i) wd0)) = fun i => encWq ((l.drop (pPos l + 1)).getD i wd0) := funext fun i => by rw [List.getD_drop]
      rw [dT h1, dT (show ((pPos l + 1 : Nat) : Int) < l.length by omega), dT (show (0 : Int) ≤ ((pPos l + 1 : Nat) : Int) by omega), dT (show ((pPos l + 1 : Nat) : Int) ≤ l.length by omega), dT (show (l.length : Int) ≤ l.length by omega), e3, e4, beq_self_eq_true]
      simp only [Bool.and_true, Bool.not_true, cond_false, Bool.and_self, cond_true]
    · rw [dF h1, dF (show ¬ ((pPos l + 1 : Nat) : Int) < l.length by omega)]
      rfl
theorem paAll_eq (f : Bool) (l : List WdD) (at_ : Int) (D : Dfs) (k : Kont) (ah : Bool) (H : Heap) (G : Ans → Ans) (H2 : Vs → Heap) (hl : l.length ≤ 67108864) (hw : ∀ w ∈ l, okWd w) (hne : l ≠ []) :
 paAll f l at_ D k ah H G H2 = paM f l at_ D k ah H G H2 := by
 obtain ⟨w, r, rfl⟩ : ∃ w r, l = w :: r := by
  cases l with
  | nil => exact absurd rfl hne
  | cons w r => exact ⟨w, r, rfl⟩
 have hd := decWqs_enc f (w :: r)
 have i1 : idxWR (AVal.list f (w :: r).length fun (i : Nat) => encWq ((w :: r).getD i wd0)) = idxW (w :: r) := by unfold idxWR; rw [hd]
 have i2 : lenWqR (AVal.list f (w :: r).length fun (i : Nat) => encWq ((w :: r).getD i wd0)) = (w :: r).length := by unfold lenWqR; rw [hd]
 have i3 := encWqsR_enc f (w :: r)
 have e0 : ((w :: r).getD 0 wd0) = w := rfl
 have hpos : (0 : Int) < ((w :: r).length : Int) := by rw [List.length_cons]; omega
 unfold paAll
 rw [dT hpos, cond_true, cond_true, cond_true, e0, i1, i2, i3, tst_true ⟨by omega, .refl _, rfl⟩, cond_true]
 cases h6 : w.kind == 6 with
 | true =>
  have : (w.kind != 6) = false := by simp [bne, h6]
  rw [this]
  unfold paM
  rw [show hdW (w :: r) = w from rfl, h6]
  rfl
 | false =>
  have : (w.kind != 6) = true := by simp [bne, h6]
  rw [this, Bool.not_true, cond_false]
  have hs : isSig w = false := h6
  have hp0 : 0 < pPos (w :: r) := by
   unfold pPos
   rw [List.findIdx_cons, hs]
   simp
  have hp := pPos_le (w :: r)
  have key := fun f' => paBody_eq f (w :: r) at_ D k ah H G H2 f' hl hw hp0 h6
  unfold idxW
  rw [pPos_any]
  by_cases hlt : pPos (w :: r) < (w :: r).length
  · rw [dT hlt, cond_true]
    show (bif decide (((pPos (w :: r) : Nat) : Int) < 0) then _ else _) = _
    rw [dF (by omega), cond_false]
    rw [show ((w :: r).findIdx isSig) = pPos (w :: r) from rfl, dT (show (0 : Int) ≤ (pPos (w :: r) : Nat) by omega), dT (show ((pPos (w :: r) : Nat) : Int) ≤ ((w :: r).length : Int) by omega), Bool.and_self, cond_true]
    exact key _
  · have heq : pPos (w :: r) = (w :: r).length := by omega
    rw [dF hlt, cond_false, dT (show (-1 : Int) < 0 by omega), cond_true, dT (Int.le_refl _), cond_true]
    have := key (f && ((w :: r).length : Int) == ((w :: r).length : Int))
    rw [heq] at this
    exact this
abbrev paHc (cs : List CallD) : Heap := paH (gV 3 cs.length) ++ gH 2 encCall cs
abbrev paS (l : List WdD) (f : Bool) (at_ : Int) (cs : List CallD) (D : Dfs) : St := stL 82 [0,1,4,5,6] (encWqs f l :: paV at_) [] [] (paHc cs) D
abbrev paZ (at_ : Int) (cs : List CallD) (D : Dfs) : St := stL 82 [1,4,5,6] (paV at_) [] [] (paHc cs) D
theorem pa_round (f : Bool) (l : List WdD) (at_ : Int) (cs : List CallD) (D : Dfs) (k : Kont) (hl : l.length ≤ 67108864) (hw : ∀ w ∈ l, okWd w) (hne : l ≠ []) (hcs : cs.length ≤ 1048576) : paTurn (paS l f at_ cs D) k =
 bif (hdW l).kind == 6 then k (.panic (fltP (hdW l).at_ 33)) (paZ at_ cs D) else
 match paE l (decide (0 < cs.length)) with
 | some e => k (.panic (fltP e.1 e.2)) (paZ at_ cs D)
 | none => bif !decide (cs.length < 16) then k (.panic (fltP (hdW l).at_ 3)) (paZ at_ cs D) else
  bif pPos l == l.length then k (.exit 0) (paZ at_ (cs ++ [paC l]) D) else
  bif !(l.getD (pPos l) wd0).text == [124] then k (.panic (fltP (l.getD (pPos l) wd0).at_ 33)) (paZ at_ (cs ++ [paC l]) D) else
  bif !decide (pPos l + 1 < l.length) then k (.panic (fltP at_ 33)) (paZ at_ (cs ++ [paC l]) D) else
  k .normal (paS (l.drop (pPos l + 1)) f at_ (cs ++ [paC l]) D) := by
 obtain ⟨s1, s2⟩ := g_snoc 3 2 encCall cs (paC l)
 have hH : paHc (cs ++ [paC l]) = paH (.own 3 0 (cs.length + 1) cs.length false) ++ [.arr 2 ((cs ++ [paC l]).map encCall) cs.length] := by
  show paH (gV 3 (cs ++ [paC l]).length) ++ gH 2 encCall (cs ++ [paC l]) = _
  rw [s1, s2]
 unfold paS paZ
 rw [hH]
 have hhd : l.getD 0 wd0 = hdW l := by
  cases l with
  | nil => exact absurd rfl hne
  | cons w r => rfl
 cases cs with
 | nil =>
  refine (pa_s0 f l at_ D k).trans ((paAll_eq f l at_ D k _ _ _ _ hl hw hne).trans ?_)
  rfl
 | cons c t =>
  refine (pa_s1 f l at_ (t.length + 1) t.length ((c :: t).map encCall) D k).trans ((paAll_eq f l at_ D k _ _ _ _ hl hw hne).trans ?_)
  unfold paM
  have e1 : decide (((t.length + 1 : Nat) : Int) > 0) = decide (0 < (c :: t).length) := by rw [dT (by omega), dT (by simp)]
  have e2 : decide (((t.length + 1 : Nat) : Int) < 16) = decide ((c :: t).length < 16) := decide_eq_decide.2 (by rw [List.length_cons]; omega)
  have e3 : (t.length == t.length && t.length + 1 == ((c :: t).map encCall).length && decide ((2 * (t.length + 1 + 1) + 1000) * 40 ≤ 281474976710656) && true) = true := by
   rw [List.length_cons] at hcs
   rw [dT (by omega)]; simp
  rw [e1]
  simp only [e2, e3, hhd, cond_true]
  have e4 : (c :: t).map encCall ++ [encCall (paC l)] = (c :: t ++ [paC l]).map encCall := by simp
  rw [e4]
  rfl
def parM : Nat → List WdD → List CallD → Int → Option (Int × Int) × List CallD
 | 0, _, cs, _ => (none, cs)
 | m + 1, l, cs, at_ =>
  bif (hdW l).kind == 6 then (some ((hdW l).at_, 33), cs) else
  match paE l (decide (0 < cs.length)) with
  | some e => (some (e.1, e.2), cs)
  | none => bif !decide (cs.length < 16) then (some ((hdW l).at_, 3), cs) else
   bif pPos l == l.length then (none, cs ++ [paC l]) else
   bif !(l.getD (pPos l) wd0).text == [124] then (some ((l.getD (pPos l) wd0).at_, 33), cs ++ [paC l]) else
   bif !decide (pPos l + 1 < l.length) then (some (at_, 33), cs ++ [paC l]) else
   parM m (l.drop (pPos l + 1)) (cs ++ [paC l]) at_
def parX (r : Option (Int × Int) × List CallD) : AExit := match r.1 with
 | some e => .panic (fltP e.1 e.2)
 | none => .exit 0
theorem pa_runs (f : Bool) (at_ : Int) : ∀ (m : Nat) (l : List WdD) (cs : List CallD), l.length ≤ m → l.length ≤ 67108864 → (∀ w ∈ l, okWd w) → l ≠ [] → cs.length ≤ 16 →
 LoopRuns paTurn 82 [0,1,4,5,6] [] [1,4,5,6] [] (encWqs f l :: paV at_) [] (paHc cs) (parX (parM m l cs at_)) (paV at_) [] (paHc (parM m l cs at_).2) := by
 intro m
 induction m with
 | zero =>
  intro l cs h1 _ _ hne _
  exact absurd (List.eq_nil_of_length_eq_zero (by omega)) hne
 | succ m ih =>
  intro l cs h1 hl hw hne hcs
  have key := fun D k => pa_round f l at_ cs D k hl hw hne (by omega)
  rw [parM]
  cases h6 : (hdW l).kind == 6 with
  | true =>
   simp only [h6, cond_true] at key ⊢
   exact .stop (by simp [parX]) key
  | false =>
   simp only [h6, cond_false] at key ⊢
   cases he : paE l (decide (0 < cs.length)) with
   | some e =>
    simp only [he] at key ⊢
    exact .stop (by simp [parX]) key
   | none =>
    simp only [he] at key ⊢
    by_cases h16 : cs.length < 16
    case neg =>
     simp only [dF h16, Bool.not_false, cond_true] at key ⊢
     exact .stop (by simp [parX]) key
    simp only [dT h16, Bool.not_true, cond_false] at key ⊢
    cases hq : pPos l == l.length with
    | true =>
     simp only [hq, cond_true] at key ⊢
     exact .stop (by simp [parX]) key
    | false =>
     simp only [hq, cond_false] at key ⊢
     cases ht : (l.getD (pPos l) wd0).text == [124] with
     | false =>
      simp only [ht, Bool.not_false, cond_true] at key ⊢
      exact .stop (by simp [parX]) key
     | true =>
      simp only [ht, Bool.not_true, cond_false] at key ⊢
      by_cases hlt : pPos l + 1 < l.length
      case neg =>
       simp only [dF hlt, Bool.not_false, cond_true] at key ⊢
       exact .stop (by simp [parX]) key
      simp only [dT hlt, Bool.not_true, cond_false] at key ⊢
      refine .step key (ih _ _ (by rw [List.length_drop]; omega) (by rw [List.length_drop]; omega) (fun w h => hw w (List.mem_of_mem_drop h)) (fun h => ?_) (by rw [List.length_append]; show _ + 1 ≤ _; omega))
      have := congrArg List.length h
      rw [List.length_drop, List.length_nil] at this
      omega
structure PaA where
 x : AVal
 at_ : Int
def paR (x : AVal) (at_ : Int) : Option (Int × Int) × List CallD := parM (decL decWq x).length (decL decWq x) [] at_
def paBad (x : AVal) (at_ : Int) : Bool := (paR x at_).1.isSome
def paEA (x : AVal) (at_ : Int) : Int := ((paR x at_).1.getD (0, 0)).1
def paEE (x : AVal) (at_ : Int) : Int := ((paR x at_).1.getD (0, 0)).2
def paNum (x : AVal) (at_ : Int) : Nat := (paR x at_).2.length
def paRows (x : AVal) (at_ : Int) : List Vs := (paR x at_).2.map encCall
noncomputable def paSp : LSp := mkL (fun vs _ _ => PaA.mk (vs.getD 0 .undef) (aI vs 1)) (fun a => caOk a.x) (fun a => encWqsR a.x :: paV a.at_) (fun _ => []) (fun _ => paH nilList)
 (fun a k => cond (paNum a.x a.at_ == 0) (cond (paBad a.x a.at_) (k (.panic (fltP (paEA a.x a.at_) (paEE a.x a.at_))) (paV a.at_) [] (paH nilList)) (k (.exit 0) (paV a.at_) [] (paH nilList)))
  (cond (paBad a.x a.at_) (k (.panic (fltP (paEA a.x a.at_) (paEE a.x a.at_))) (paV a.at_) [] (paH (.own 3 0 (paNum a.x a.at_) (paNum a.x a.at_ - 1) false) ++ [.arr 2 (paRows a.x a.at_) (paNum a.x a.at_ - 1)]))
   (k (.exit 0) (paV a.at_) [] (paH (.own 3 0 (paNum a.x a.at_) (paNum a.x a.at_ - 1) false) ++ [.arr 2 (paRows a.x a.at_) (paNum a.x a.at_ - 1)]))))
theorem paSp_ok : SpOK paTurn 82 [0,1,4,5,6] [] [1,4,5,6] [] paSp := mkL_ok fun a h => by
 obtain ⟨x, at_⟩ := a
 obtain ⟨h1, h2, h3⟩ := h
 have r := pa_runs (fullOf x) at_ _ (decL decWq x) [] (Nat.le_refl _) h2 h3 h1 (by show 0 ≤ 16; omega)
 show ∃ e vs bs H', (∀ k : AExit → Vs → List Vs → Heap → Ans, cond (paNum x at_ == 0) _ _ = k e vs bs H') ∧ LoopRuns paTurn _ _ _ _ _ (encWqs (fullOf x) (decL decWq x) :: paV at_) [] (paHc []) e vs bs H'
 have hr : parM (decL decWq x).length (decL decWq x) [] at_ = paR x at_ := rfl
 rw [hr] at r
 have b : ∀ e, (paR x at_).1 = some e → paBad x at_ = true ∧ paEA x at_ = e.1 ∧ paEE x at_ = e.2 := fun e he => ⟨by unfold paBad; rw [he]; rfl, by unfold paEA; rw [he]; rfl, by unfold paEE; rw [he]; rfl⟩
 have b0 : (paR x at_).1 = none → paBad x at_ = false := fun he => by unfold paBad; rw [he]; rfl
 unfold paNum paRows
 cases hc : (paR x at_).2 with
 | nil =>
  rw [hc] at r
  cases he : (paR x at_).1 with
  | some e =>
   obtain ⟨b1, b2, b3⟩ := b e he
   rw [b1, b2, b3]
   unfold parX at r; rw [he] at r
   exact ⟨_, _, _, _, fun k => rfl, r⟩
  | none =>
   rw [b0 he]
   unfold parX at r; rw [he] at r
   exact ⟨_, _, _, _, fun k => rfl, r⟩
 | cons c t =>
  rw [hc] at r
  cases he : (paR x at_).1 with
  | some e =>
   obtain ⟨b1, b2, b3⟩ := b e he
   rw [b1, b2, b3]
   unfold parX at r; rw [he] at r
   exact ⟨_, _, _, _, fun k => rfl, r⟩
  | none =>
   rw [b0 he]
   unfold parX at r; rw [he] at r
   exact ⟨_, _, _, _, fun k => rfl, r⟩
noncomputable def paFH : FH := { FH.of [(3, loopSpec 82 [0,1,4,5,6] [] [1,4,5,6] [] paSp)] with heap := [4,5,6], hoist := true }
theorem pa_turn_eq : lturn Tryz.prog layPa paFH 64 3 [0,1,4,5,6] [] [1,4,5,6] [] = paTurn := by kernel_rfl
noncomputable def layPa2 : Lay := layPa.addL 64 paFH
theorem layPa2_ok : layPa2.OK Tryz.prog := layPa_ok.loop1 (id := 3) (by kernel_rfl) (by kernel_rfl) (by kernel_rfl) (by rw [pa_turn_eq]; exact paSp_ok)
theorem par_fun (f : Bool) (l : List WdD) (at_ : Int) (k : Out → Ans) : iFun Tryz.prog (layPa2.hd Tryz.prog) layPa2.fhs 0 64 [encWqs f l, .int .i64 at_] [] k = (
 let m0 : Nat := paNum (AVal.list f l.length fun i => encWq (l.getD i wd0)) at_;
 let c1 : Bool := paBad (AVal.list f l.length fun i => encWq (l.getD i wd0)) at_;
 let m2 : Nat := m0 - 1;
  bif !decide ((↑l.length : Int) > 0) then k (Out.ret (AVal.tuple [AVal.list true 0 fun (x : Nat) => [], AVal.int .i64 at_, AVal.int .i64 8]) [Obj.var [AVal.list true 0 fun (x : Nat) => []], Obj.var [AVal.int .i64 at_], Obj.var [AVal.int .i64 8]]) else bif tst (caOk (AVal.list f l.length fun i => encWq (l.getD i wd0)) ∧ SubTL [AVal.list f l.length fun i => encWq (l.getD i wd0), AVal.int .i64 at_, AVal.ptr (Oid.hp 0) 0, AVal.ptr (Oid.hp 1) 0, AVal.ptr (Oid.hp 2) 0] (encWqsR (AVal.list f l.length fun i => encWq (l.getD i wd0)) :: paV at_) ∧ ([] : List Vs) = [] ∧ [Obj.var [AVal.list true 0 fun (x : Nat) => []], Obj.var [AVal.int .i64 0], Obj.var [AVal.int .i64 0]] = paH (AVal.list true 0 fun (x : Nat) => [])) then bif m0 == 0 then bif c1 then k (Out.ret (AVal.tuple [AVal.list true 0 fun (x : Nat) => [], AVal.int .i64 (paEA (AVal.list f l.length fun i => encWq (l.getD i wd0)) at_), AVal.int .i64 (paEE (AVal.list f l.length fun i => encWq (l.getD i wd0)) at_)]) [Obj.var [AVal.list true 0 fun (x : Nat) => []], Obj.var [AVal.int .i64 (paEA (AVal.list f l.length fun i => encWq (l.getD i wd0)) at_)], Obj.var [AVal.int .i64 (paEE (AVal.list f l.length fun i => encWq (l.getD i wd0)) at_)]]) else k (Out.ret (AVal.tuple [AVal.list true 0 fun (x : Nat) => [], AVal.int .i64 at_, AVal.int .i64 0]) [Obj.var [AVal.list true 0 fun (x : Nat) => []], Obj.var [AVal.int .i64 at_], Obj.var [AVal.int .i64 0]]) else bif c1 then k (Out.ret (AVal.tuple [AVal.list true 0 fun (x : Nat) => [], AVal.int .i64 (paEA (AVal.list f l.length fun i => encWq (l.getD i wd0)) at_), AVal.int .i64 (paEE (AVal.list f l.length fun i => encWq (l.getD i wd0)) at_)]) [Obj.var [AVal.list true 0 fun (x : Nat) => []], Obj.var [AVal.int .i64 (paEA (AVal.list f l.length fun i => encWq (l.getD i wd0)) at_)], Obj.var [AVal.int .i64 (paEE (AVal.list f l.length fun i => encWq (l.getD i wd0)) at_)], Obj.arr 2 (paRows (AVal.list f l.length fun i => encWq (l.getD i wd0)) at_) m2]) else k (Out.ret (AVal.tuple [AVal.own 3 0 m0 m2 false, AVal.int .i64 at_, AVal.int .i64 0]) [Obj.var [AVal.own 3 0 m0 m2 false], Obj.var [AVal.int .i64 at_], Obj.var [AVal.int .i64 0], Obj.arr 2 (paRows (AVal.list f l.length fun i => encWq (l.getD i wd0)) at_) m2]) else none) := by kernel_rfl
def parR (l : List WdD) (at_ : Int) : List CallD × Int × Int :=
 bif l.isEmpty then ([], at_, 8) else match parM l.length l [] at_ with
 | (some e, _) => ([], e.1, e.2)
 | (none, cs) => (cs, at_, 0)
theorem sub_pipe0 {r : Nat → Vs} {a b : AVal} : Sub (.tuple [.list true 0 r, a, b]) (.tuple [encPipe false [], a, b]) :=
 .tuple (.cons (Sub.list (fun h => by cases h) (fun i hi => by omega)) (.refl _))
theorem sub_pipe (cs : List CallD) (a b : AVal) : Sub (.tuple [.list false cs.length (fun i => (cs.map encCall).getD i []), a, b]) (.tuple [encPipe false cs, a, b]) := by
 refine .tuple (.cons (Sub.list (fun h => h) (fun i hi => ?_)) (.refl _))
 have : (cs.map encCall).getD i [] = encCall (cs.getD i callD0) := by
  rw [gQ, gQ, List.getElem?_map, List.getElem?_eq_getElem hi]
  rfl
 rw [this]
 exact .refl _
theorem par_ok (f : Bool) (l : List WdD) (at_ : Int) (hl : l.length ≤ 67108864) (hw : ∀ w ∈ l, okWd w) :
 CallOK Tryz.prog 64 [encWqs f l, .int .i64 at_] [] (.ret (.tuple [encPipe false (parR l at_).1, .int .i64 (parR l at_).2.1, .int .i64 (parR l at_).2.2]) []) := by
 have d := decWqs_enc f l
 have e3 := encWqsR_enc f l
 have key := fun k => par_fun f l at_ k
 by_cases hne : l = []
 · subst hne
   have hc : CallOK Tryz.prog 64 [encWqs f [], .int .i64 at_] [] (.ret (.tuple [.list true 0 fun (x : Nat) => [], .int .i64 at_, .int .i64 8]) _) := layPa2_ok.call key
   exact (CallOK.shrink (H := []) (H' := []) hc (Nat.le_refl _) rfl (fun x hx => by cases hx)).sub (.refl _) ⟨sub_pipe0, rfl⟩
 have hr : paR (AVal.list f l.length fun i => encWq (l.getD i wd0)) at_ = parM l.length l [] at_ := by unfold paR; rw [d]
 have p1 : caOk (AVal.list f l.length fun i => encWq (l.getD i wd0)) := ⟨by rw [d]; exact hne, by rw [d]; exact hl, by rw [d]; exact hw⟩
 have hpos : 0 < l.length := List.length_pos_iff.2 hne
 have hem : l.isEmpty = false := by simpa using hne
 unfold paNum paBad paEA paEE paRows at key
 simp only [hr, e3, dT (show (l.length : Int) > 0 by omega), Bool.not_true, cond_false] at key
 replace key := fun k => (key k).trans ((congrArg (fun c => cond c _ none) (tst_true ⟨p1, .refl _, by first | trivial | rfl, by first | trivial | rfl⟩)).trans (cond_true _ _))
 unfold parR
 rw [hem, cond_false]
 cases hm : parM l.length l [] at_ with
 | mk o cs =>
  rw [hm] at key
  cases o with
  | some e =>
   simp only [Option.isSome_some, cond_true, Option.getD_some] at key ⊢
   cases cs with
   | nil =>
    have hc : CallOK Tryz.prog 64 [encWqs f l, .int .i64 at_] [] (.ret (.tuple [.list true 0 fun (x : Nat) => [], .int .i64 e.1, .int .i64 e.2]) _) := layPa2_ok.call key
    exact (CallOK.shrink (H := []) (H' := []) hc (Nat.le_refl _) rfl (fun x hx => by cases hx)).sub (.refl _) ⟨sub_pipe0, rfl⟩
   | cons c t =>
    have hc : CallOK Tryz.prog 64 [encWqs f l, .int .i64 at_] [] (.ret (.tuple [.list true 0 fun (x : Nat) => [], .int .i64 e.1, .int .i64 e.2]) _) := layPa2_ok.call key
    exact (CallOK.shrink (H := []) (H' := []) hc (Nat.le_refl _) rfl (fun x hx => by cases hx)).sub (.refl _) ⟨sub_pipe0, rfl⟩
  | none =>
   simp only [Option.isSome_none, cond_false] at key ⊢
   cases cs with
   | nil =>
    have hc : CallOK Tryz.prog 64 [encWqs f l, .int .i64 at_] [] (.ret (.tuple [.list true 0 fun (x : Nat) => [], .int .i64 at_, .int .i64 0]) _) := layPa2_ok.call key
    exact (CallOK.shrink (H := []) (H' := []) hc (Nat.le_refl _) rfl (fun x hx => by cases hx)).sub (.refl _) ⟨sub_pipe0, rfl⟩
   | cons c t =>
    have hc : CallOK Tryz.prog 64 [encWqs f l, .int .i64 at_] [] (.ret (.tuple [.own 3 0 (c :: t).length t.length false, .int .i64 at_, .int .i64 0])
     [.var [.own 3 0 (c :: t).length t.length false], .var [.int .i64 at_], .var [.int .i64 0], .arr 2 ((c :: t).map encCall) t.length]) := layPa2_ok.call key
    have fz : freezeV [.var [.own 3 0 (c :: t).length t.length false], .var [.int .i64 at_], .var [.int .i64 0], .arr 2 ((c :: t).map encCall) t.length] 3 (.tuple [.own 3 0 (c :: t).length t.length false, .int .i64 at_, .int .i64 0]) = some (.tuple [.list false (c :: t).length (fun i => ((c :: t).map encCall).getD i []), .int .i64 at_, .int .i64 0]) := by
     refine freeze_t3 ?_
     refine freezeW (sz := 2) (rows := (c :: t).map encCall) (rows' := (c :: t).map encCall) rfl (by simp) ?_
     rw [List.drop_zero, List.take_of_length_le (by simp)]
     exact freeze_pures _ 0 _ (fun r hr => by
      obtain ⟨a, _, rfl⟩ := List.mem_map.1 hr
      rfl)
    exact (hc.freeze (d := 3) fz).sub (.refl _) ⟨sub_pipe (c :: t) _ _, rfl⟩
def parOkR (x : AVal) : Prop := (decL decWq x).length ≤ 67108864 ∧ ∀ w ∈ decL decWq x, okWd w
def parRR (x : AVal) (at_ : Int) : List CallD × Int × Int := parR (decL decWq x) at_
def parV (x : AVal) (at_ : Int) : List CallD := (parRR x at_).1
def parA (x : AVal) (at_ : Int) : Int := (parRR x at_).2.1
def parE (x : AVal) (at_ : Int) : Int := (parRR x at_).2.2
noncomputable def parTold : FSp := mkF (fun xs H => PaA.mk (xs.getD 0 .undef) (aI xs 1)) (fun a => parOkR a.x) (fun a => [encWqsR a.x, .int .i64 a.at_]) (fun _ => []) (fun a k => k (.ret (.tuple [encPipe false (parV a.x a.at_), .int .i64 (parA a.x a.at_), .int .i64 (parE a.x a.at_)]) []))
theorem parTold_ok : ∀ xs H k out, parTold xs H k = some out → ∃ o, CallOK Tryz.prog 64 xs H o ∧ k o = some out := mkF_ok fun a h => ⟨_, fun k => rfl, par_ok _ _ _ h.1 h.2⟩
end Go.Mu
namespace Go.Mu
open Go Go.Proofs
structure PiA where
 c : Nat
 H : Heap
 pf : Bool
 pn : Nat
 pr : Nat → Vs
 n : Int
 i : Int
 x : AVal
 j : Nat
end Go.Mu
namespace Go.Mu
open Go Go.Proofs
def isNm (s : Oc) : Prop := s ≠ [] ∧ s.length ≤ 32 ∧ (∀ c ∈ s, nmC c = true) ∧ (ltr (s.getD 0 0) || s.getD 0 0 == 95) = true
theorem isNm_46 {s : Oc} (h : isNm s) : (46 : UInt8) ∉ s := fun hm => by
 have := h.2.2.1 _ hm
 exact absurd this (by decide)
def pathK (l : List Oc) : Oc := (l.map (46 :: ·)).flatten
theorem pathK_cons (s : Oc) (l : List Oc) : pathK (s :: l) = 46 :: (s ++ pathK l) := by simp [pathK]
theorem join_pathK (s : Oc) (l : List Oc) : Lib.join (s :: l) [46] = s ++ pathK l := by
 rw [Lib.join_cons]; rfl
end Go.Mu
namespace Go.Mu
open Go Go.Proofs
theorem idxB_none : ∀ {s : Oc}, (46 : UInt8) ∉ s → Lib.indexByte s 46 = -1
 | [], _ => rfl
 | c :: s, h => by
  have hc : (c == 46) = false := by
   simp only [beq_eq_false_iff_ne, ne_eq]
   intro e; exact h (by simp [e])
  rw [Lib.indexByte, hc, idxB_none (fun hm => h (by simp [hm]))]
  rfl
theorem idxB_hit : ∀ {s : Oc} (rest : Oc), (46 : UInt8) ∉ s → Lib.indexByte (s ++ 46 :: rest) 46 = (s.length : Int)
 | [], rest, _ => rfl
 | c :: s, rest, h => by
  have hc : (c == 46) = false := by
   simp only [beq_eq_false_iff_ne, ne_eq]
   intro e; exact h (by simp [e])
  rw [List.cons_append, Lib.indexByte, hc, idxB_hit rest (fun hm => h (by simp [hm]))]
  have : ((s.length : Int) == -1) = false := by
   simp only [beq_eq_false_iff_ne, ne_eq]; omega
  rw [this]
  simp
theorem splitM_eq (s : Oc) : splitM s [46] = Lib.splitK [46] 0 (Lib.count s [46]) s := by
 unfold splitM
 rw [Lib.splitB_data]
 rfl
theorem splitK_join : ∀ (l : List Oc) (s : Oc), (46 : UInt8) ∉ s → (∀ x ∈ l, (46 : UInt8) ∉ x) → Lib.count (s ++ pathK l) [46] = l.length ∧ Lib.splitK [46] 0 l.length (s ++ pathK l) = s :: l
 | [], s, hs, _ => by
  have e : s ++ pathK [] = s := by simp [pathK]
  rw [e]
  have hi : Lib.index s [46] = -1 := by rw [Lib.index_one]; exact idxB_none hs
  exact ⟨Lib.count_miss hi, rfl⟩
 | x :: l, s, hs, hl => by
  have e : s ++ pathK (x :: l) = s ++ 46 :: (x ++ pathK l) := by rw [pathK_cons]
  rw [e]
  have hi : Lib.index (s ++ 46 :: (x ++ pathK l)) [46] = (s.length : Int) := by rw [Lib.index_one]; exact idxB_hit _ hs
  obtain ⟨i1, i2⟩ := splitK_join l x (hl x (by simp)) (fun y hy => hl y (by simp [hy]))
  have ed : (s ++ 46 :: (x ++ pathK l)).drop (s.length + 1) = x ++ pathK l := by
   rw [show s ++ 46 :: (x ++ pathK l) = (s ++ [46]) ++ (x ++ pathK l) by simp, show s.length + 1 = (s ++ [46]).length by simp]
   exact List.drop_left
  refine ⟨?_, ?_⟩
  · rw [Lib.count_hit (by simp) hi]
    show 1 + Lib.count ((s ++ 46 :: (x ++ pathK l)).drop (s.length + 1)) [46] = _
    rw [ed, i1, List.length_cons, Nat.add_comm]
  · rw [List.length_cons, Lib.splitK]
    have : (Lib.index (s ++ 46 :: (x ++ pathK l)) [46] == -1) = false := by
     rw [hi]
     simp only [beq_eq_false_iff_ne, ne_eq]; omega
    rw [this, hi]
    simp only [Int.toNat_natCast, Nat.add_zero]
    show (s ++ 46 :: (x ++ pathK l)).take s.length :: Lib.splitK [46] 0 l.length ((s ++ 46 :: (x ++ pathK l)).drop (s.length + 1)) = _
    rw [ed, i2, List.take_left]
theorem steps_join {l : List Oc} (h : ∀ s ∈ l, isNm s) : stepsM (46 :: Lib.join l [46]) = l := by
 cases l with
 | nil => rfl
 | cons s l =>
  have hs := h s (by simp)
  have hp : 0 < s.length := List.length_pos_iff.2 hs.1
  unfold stepsM
  have e0 : (46 :: Lib.join (s :: l) [46] == [46] || 46 :: Lib.join (s :: l) [46] == []) = false := by
   rw [Bool.or_eq_false_iff]
   refine ⟨?_, rfl⟩
   simp only [beq_eq_false_iff_ne, ne_eq]
   intro e
   rw [join_pathK] at e
   have := congrArg List.length e
   rw [List.length_cons, List.length_append] at this
   have h1 : ([46] : Oc).length = 1 := rfl
   omega
  rw [e0, cond_false]
  show splitM (Lib.join (s :: l) [46]) [46] = _
  obtain ⟨i1, i2⟩ := splitK_join l s (isNm_46 hs) (fun x hx => isNm_46 (h x (by simp [hx])))
  rw [join_pathK, splitM_eq, i1, i2]
theorem cut_var {nm : Oc} {l : List Oc} (hn : (46 : UInt8) ∉ nm) (h : ∀ s ∈ l, isNm s) : (Lib.cut (nm ++ pathK l) [46]).1 = nm ∧ stepsM (varRest (nm ++ pathK l)) = l := by
 cases l with
 | nil =>
  have e : nm ++ pathK [] = nm := by simp [pathK]
  have hi : Lib.index nm [46] = -1 := by rw [Lib.index_one]; exact idxB_none hn
  rw [e]
  unfold varRest Lib.cut
  rw [hi]
  exact ⟨rfl, rfl⟩
 | cons s l =>
  have e : nm ++ pathK (s :: l) = nm ++ 46 :: (s ++ pathK l) := by rw [pathK_cons]
  have hi : Lib.index (nm ++ 46 :: (s ++ pathK l)) [46] = (nm.length : Int) := by rw [Lib.index_one]; exact idxB_hit _ hn
  have hc : Lib.cut (nm ++ pathK (s :: l)) [46] = (nm, s ++ pathK l, true) := by
   unfold Lib.cut
   rw [e, hi, if_pos (by omega), Int.toNat_natCast, List.take_left]
   show (nm, (nm ++ 46 :: (s ++ pathK l)).drop (nm.length + 1), true) = _
   rw [show nm ++ 46 :: (s ++ pathK l) = (nm ++ [46]) ++ (s ++ pathK l) by simp, show nm.length + 1 = (nm ++ [46]).length by simp, List.drop_left]
  unfold varRest
  rw [hc]
  refine ⟨rfl, ?_⟩
  show stepsM (46 :: (s ++ pathK l)) = _
  rw [← join_pathK]
  exact steps_join h
end Go.Mu
namespace Go.Mu
open Go Go.Proofs
theorem isC_no {w : WdD} (h : w.kind ≠ 1) : isC w = false := by
 unfold isC
 have : (w.kind == 1) = false := by simpa using h
 rw [this]; rfl
def inR (a : ArgD) : Prop := -9223372036854775808 ≤ a.int ∧ a.int ≤ 9223372036854775807
end Go.Mu
namespace Go.Mu
open Go Go.Proofs
def sumL (l : List Oc) : Nat := (l.map (fun s => s.length + 1)).sum
def aW (a : ArgD) : Nat := a.name.length + sumL a.path + a.text.length
def cW (c : CallD) : Nat := c.name.length + (c.args.map (fun a => aW a + 1)).sum
def pW (l : List CallD) : Nat := (l.map (fun c => cW c + 1)).sum
theorem mem_sum {α : Type} (f : α → Nat) : ∀ (l : List α) (x : α), x ∈ l → f x ≤ (l.map f).sum
 | y :: l, x, h => by
  simp only [List.map_cons, List.sum_cons]
  rcases List.mem_cons.1 h with rfl | h
  · omega
  · have := mem_sum f l x h; omega
end Go.Mu
namespace Go.Mu
open Go Go.Proofs
structure SkA where
 s : Oc
 i : Nat
 H : Heap
end Go.Mu
namespace Go.Mu
open Go Go.Proofs
theorem beg_dig (c : UInt8) : (nmC c && !dig c) = (ltr c || c == 95) := by
 have h : ∀ n : Fin 256, (nmC (UInt8.ofNat n) && !dig (UInt8.ofNat n)) = (ltr (UInt8.ofNat n) || UInt8.ofNat n == 95) := by decide +kernel
 have := h ⟨c.toNat, c.toNat_lt⟩
 simpa using this
theorem run_pos (c : UInt8) (t : Oc) : decide (0 < runN (c :: t)) = nmC c := by
 rw [runN_cons]
 cases nmC c <;> simp
end Go.Mu
namespace Go.Mu
open Go Go.Proofs
structure HsA where
 s : Oc
 n : Int
 i : Nat
 H : Heap
structure RdA where
 b : Bool
 s : Oc
 i : Nat
 H : Heap
structure RnA where
 b : Bool
 s : Oc
 n : Nat
 i : Nat
 H : Heap
end Go.Mu
namespace Go.Mu
open Go Go.Proofs
structure RgA where
 s : Oc
 a : Int
 i : Nat
 e : Int
 b4 : Vs
 b11 : Vs
 H : Heap
end Go.Mu
namespace Go.Mu
open Go Go.Proofs
theorem nm_nameB {s : Oc} (h : isNm s) : nameB s = true := by
 obtain ⟨h1, h2, h3, h4⟩ := h
 have hc : ∀ n : Fin 256, ((ltr (UInt8.ofNat n) || UInt8.ofNat n == 95) = true → rBadA (UInt8.ofNat n) = false) ∧ (nmC (UInt8.ofNat n) = true → oBad (UInt8.ofNat n) = false) := by decide +kernel
 have hc' : ∀ c : UInt8, ((ltr c || c == 95) = true → rBadA c = false) ∧ (nmC c = true → oBad c = false) := fun c => by
  have := hc ⟨c.toNat, c.toNat_lt⟩
  simpa using this
 cases s with
 | nil => exact absurd rfl h1
 | cons c t =>
  unfold nameB
  rw [nmHit_any, (hc' c).1 h4, dT (show 1 ≤ (c :: t).length ∧ (c :: t).length ≤ 32 from ⟨by simp, h2⟩)]
  have : t.any oBad = false := List.any_eq_false.2 (fun d hd => by rw [(hc' d).2 (h3 d (by simp [hd]))]; decide)
  rw [this]; rfl
theorem run_take : ∀ (t : Oc), ∀ c ∈ t.take (runN t), nmC c = true
 | [], c, h => by simp at h
 | d :: t, c, h => by
  rw [runN_cons] at h
  cases hd : nmC d with
  | false => rw [hd] at h; simp at h
  | true =>
   rw [hd, cond_true, List.take_succ_cons] at h
   rcases List.mem_cons.1 h with rfl | h
   · exact hd
   · exact run_take t c h
theorem idE_isNm {t : Oc} (h : idE t = 0) : isNm (t.take (runN t)) := by
 have hle := runN_le t
 unfold idE at h
 by_cases h0 : 0 < runN t
 case neg => rw [dF h0] at h; simp at h
 rw [dT h0] at h
 cases hd : dig (t.getD 0 0) with
 | true => rw [hd] at h; simp at h
 | false =>
  rw [hd] at h
  by_cases h32 : runN t ≤ 32
  case neg => rw [dF h32] at h; simp at h
  have hl : (t.take (runN t)).length = runN t := by rw [List.length_take]; omega
  cases t with
  | nil => simp at hle; omega
  | cons c u =>
   have hn : nmC c = true := by rw [← run_pos c u]; exact dT h0
   have e0 : ((c :: u).take (runN (c :: u))).getD 0 0 = c := by
    obtain ⟨m, hm⟩ : ∃ m, runN (c :: u) = m + 1 := ⟨runN (c :: u) - 1, by omega⟩
    rw [hm]; rfl
   refine ⟨fun e => ?_, by omega, run_take _, ?_⟩
   · rw [e] at hl; simp at hl; omega
   · rw [e0, ← beg_dig, hn]
     show (true && !dig c) = true
     rw [show dig c = false from hd]
     rfl
theorem dots_of : ∀ (m : Nat) (t : Oc), (dotsM m t).1 = 0 → ∃ l : List Oc, (∀ s ∈ l, isNm s) ∧ t.take (dotsM m t).2 = pathK l
 | 0, t, _ => ⟨[], by simp, by rw [dotsM]; rfl⟩
 | m + 1, t, h => by
  rw [dotsM] at h ⊢
  cases hc : decide (1 < t.length) && t.getD 0 0 == 46 with
  | false => exact ⟨[], by simp, rfl⟩
  | true =>
   rw [hc] at h
   simp only [cond_true] at h ⊢
   rw [Bool.and_eq_true, decide_eq_true_eq, beq_iff_eq] at hc
   cases he : idE (t.drop 1) == 0 with
   | false =>
    rw [he] at h
    simp only [cond_false] at h
    rw [h] at he; cases he
   | true =>
    rw [he] at h
    simp only [cond_true] at h ⊢
    obtain ⟨l, h1, h2⟩ := dots_of m _ h
    refine ⟨(t.drop 1).take (runN (t.drop 1)) :: l, fun s hs => ?_, ?_⟩
    · rcases List.mem_cons.1 hs with rfl | hs
      · exact idE_isNm (by simpa using he)
      · exact h1 s hs
    · rw [pathK_cons, ← h2]
      cases t with
      | nil => simp at hc
      | cons c u =>
       have hc2 : c = 46 := hc.2
       subst hc2
       show (46 :: u).take (1 + runN u + (dotsM m ((46 :: u).drop (1 + runN u))).2) = 46 :: (u.take (runN u) ++ ((46 :: u).drop (1 + runN u)).take (dotsM m ((46 :: u).drop (1 + runN u))).2)
       have ed : (46 :: u).drop (1 + runN u) = u.drop (runN u) := by rw [Nat.add_comm, List.drop_succ_cons]
       rw [ed, show 1 + runN u + (dotsM m (u.drop (runN u))).2 = (runN u + (dotsM m (u.drop (runN u))).2) + 1 by omega, List.take_succ_cons, List.take_add]
def WF (k : Int) (t : Oc) : Prop :=
 (k = 1 ∧ isNm t) ∨ (k = 2 ∧ ∃ l : List Oc, (∀ s ∈ l, isNm s) ∧ t = 46 :: Lib.join l [46]) ∨ (k = 3 ∧ ∃ (nm : Oc) (l : List Oc), (nm = [] ∨ isNm nm) ∧ (∀ s ∈ l, isNm s) ∧ t = 36 :: (nm ++ pathK l)) ∨
 (k = 4 ∧ t ≠ [] ∧ (numM t).2 = 0) ∨ (k = 5 ∧ t.length ≤ 4096) ∨ (k = 6 ∧ t ≠ [])
def wtK (k : Int) (t : Oc) : Nat := if k = 5 then t.length + 2 else t.length
theorem strQ_wt (b : Nat) : ∀ (n : Nat) (t acc : Oc) (i : Nat), t.length ≤ n → (strQ b t acc i).e = 0 → (strQ b t acc i).text.length ≤ 4096 ∧ (strQ b t acc i).text.length + i + 1 ≤ (strQ b t acc i).upto_ + acc.length
 | n, [], acc, i, _, h => by cases h
 | n, [c], acc, i, _, h => by
  rw [strQ] at h ⊢
  cases h1 : c == 34 with
  | true =>
   rw [h1] at h
   by_cases h2 : acc.length ≤ 4096
   · rw [dT h2]; simp only [cond_true]; exact ⟨h2, by omega⟩
   · rw [dF h2] at h; cases h
  | false =>
   rw [h1] at h
   cases h2 : c == 92 || c == 10 <;> rw [h2] at h <;> cases h
 | 0, c :: d :: u, acc, i, h, _ => by simp at h
 | n + 1, c :: d :: u, acc, i, hn, h => by
  simp only [List.length_cons] at hn
  rw [strQ] at h ⊢
  cases h1 : c == 34 with
  | true =>
   rw [h1] at h
   by_cases h2 : acc.length ≤ 4096
   · rw [dT h2]; simp only [cond_true]; exact ⟨h2, by omega⟩
   · rw [dF h2] at h; cases h
  | false =>
   rw [h1] at h
   simp only [cond_false] at h ⊢
   cases h2 : c == 92 && decide (escI d ≥ 0) with
   | true =>
    rw [h2] at h
    simp only [cond_true] at h ⊢
    have := strQ_wt b n u (acc ++ [escO d]) (i + 2) (by omega) h
    rw [List.length_append] at this
    refine ⟨this.1, ?_⟩
    have := this.2
    simp only [List.length_cons, List.length_nil] at this
    omega
   | false =>
    rw [h2] at h
    simp only [cond_false] at h ⊢
    cases h3 : c == 92 || c == 10 with
    | true => rw [h3] at h; cases h
    | false =>
     rw [h3] at h
     simp only [cond_false] at h ⊢
     have := strQ_wt b n (d :: u) (acc ++ [c]) (i + 1) (by simp only [List.length_cons]; omega) h
     rw [List.length_append] at this
     refine ⟨this.1, ?_⟩
     have := this.2
     simp only [List.length_cons, List.length_nil] at this
     omega
end Go.Mu
namespace Go.Mu
open Go Go.Proofs
theorem hd_cons {t : Oc} {c : UInt8} (ht : t ≠ []) (h : (t.getD 0 0 == c) = true) : ∃ u, t = c :: u := by
 cases t with
 | nil => exact absurd rfl ht
 | cons d u =>
  have : d = c := by simpa using h
  exact ⟨u, by rw [this]⟩
theorem one_wf {t : Oc} (ht : t ≠ []) (he : (oneM t).e = 0) : WF (oneM t).kind (oneM t).text ∧ 1 ≤ wtK (oneM t).kind (oneM t).text ∧ wtK (oneM t).kind (oneM t).text ≤ (oneM t).len := by
 obtain ⟨l1, l2⟩ := one_len ht he
 have hlt : 0 < t.length := List.length_pos_iff.2 ht
 have fin : ∀ (k : Int) (r : Int × Nat), k ≠ 5 → oneM t = cutR k t r → (r.1 = 0 → 1 ≤ r.2 → r.2 ≤ t.length → WF k (t.take r.2)) → WF (oneM t).kind (oneM t).text ∧ 1 ≤ wtK (oneM t).kind (oneM t).text ∧ wtK (oneM t).kind (oneM t).text ≤ (oneM t).len := by
  intro k r hk e hw
  rw [e] at l1 l2 he ⊢
  simp only [cutR] at l1 l2 he ⊢
  refine ⟨hw he l1 l2, ?_⟩
  unfold wtK
  rw [if_neg hk, List.length_take]
  omega
 cases b1 : ltr (t.getD 0 0) || t.getD 0 0 == 95 with
 | true => exact fin 1 (idE t, runN t) (by decide) (by unfold oneM; rw [b1]; rfl) (fun h _ _ => .inl ⟨rfl, idE_isNm h⟩)
 | false =>
 cases b2 : t.getD 0 0 == 46 with
 | true =>
  refine fin 2 (dotM t) (by decide) (by unfold oneM; rw [b1, b2]; rfl) (fun h h1 _ => .inr (.inl ⟨rfl, ?_⟩))
  obtain ⟨u, rfl⟩ := hd_cons ht b2
  unfold dotM at h h1 ⊢
  cases hd : hd1 (46 :: u) with
  | false => exact ⟨[], by simp, rfl⟩
  | true =>
   rw [hd, cond_true] at h h1
   obtain ⟨l, g1, g2⟩ := dots_of _ _ h
   cases l with
   | nil =>
    have := congrArg List.length g2
    rw [List.length_take] at this
    simp only [pathK, List.map_nil, List.flatten_nil, List.length_nil, List.length_cons] at this h1
    omega
   | cons s l => exact ⟨s :: l, g1, by rw [cond_true, g2, pathK_cons, join_pathK]⟩
 | false =>
 cases b3 : t.getD 0 0 == 36 with
 | true =>
  refine fin 3 (dollarM t) (by decide) (by unfold oneM; rw [b1, b2, b3]; rfl) (fun h h1 _ => .inr (.inr (.inl ⟨rfl, ?_⟩)))
  obtain ⟨u, rfl⟩ := hd_cons ht b3
  unfold dollarM at h ⊢
  cases hd : hd1 (36 :: u) with
  | false =>
   rw [hd, cond_false] at h
   obtain ⟨l, g1, g2⟩ := dots_of _ _ h
   refine ⟨[], l, .inl rfl, g1, ?_⟩
   rw [cond_false]
   show (36 :: u).take (1 + (dotsM (36 :: u).length ((36 :: u).drop 1)).2) = _
   rw [Nat.add_comm, List.take_succ_cons, List.nil_append, ← g2]
   rfl
  | true =>
   rw [hd, cond_true] at h
   cases hi : idE ((36 :: u).drop 1) == 0 with
   | false =>
    rw [hi, cond_false] at h
    simp only at h
    rw [h] at hi; cases hi
   | true =>
    rw [hi, cond_true] at h
    obtain ⟨l, g1, g2⟩ := dots_of _ _ h
    refine ⟨u.take (runN u), l, .inr (idE_isNm (by simpa using hi)), g1, ?_⟩
    rw [cond_true, cond_true, ← g2]
    have ed : (36 :: u).drop (1 + runN u) = u.drop (runN u) := by rw [Nat.add_comm, List.drop_succ_cons]
    show (36 :: u).take (1 + runN u + (dotsM (36 :: u).length ((36 :: u).drop (1 + runN u))).2) = 36 :: (u.take (runN u) ++ ((36 :: u).drop (1 + runN u)).take (dotsM (36 :: u).length ((36 :: u).drop (1 + runN u))).2)
    rw [ed, show 1 + runN u + (dotsM (36 :: u).length (u.drop (runN u))).2 = (runN u + (dotsM (36 :: u).length (u.drop (runN u))).2) + 1 by omega, List.take_succ_cons, List.take_add]
 | false =>
 have ne_take : ∀ n, 1 ≤ n → t.take n ≠ [] := fun n hn e => by
  have := congrArg List.length e
  rw [List.length_take, List.length_nil] at this
  omega
 cases b4 : t.getD 0 0 == 45 || dig (t.getD 0 0) with
 | true =>
  refine fin 4 (digM t) (by decide) (by unfold oneM; rw [b1, b2, b3, b4]; rfl) (fun h h1 _ => .inr (.inr (.inr (.inl ⟨rfl, ne_take _ h1, ?_⟩))))
  unfold digM at h ⊢
  simp only at h ⊢
  cases h4 : (numM (t.take (1 + dgN (t.drop 1)))).2 == 4 with
  | true => rw [h4] at h; cases h
  | false =>
   rw [h4, cond_false] at h
   cases h0 : (numM (t.take (1 + dgN (t.drop 1)))).2 == 0 with
   | true => simpa using h0
   | false => rw [h0] at h; cases h
 | false =>
 cases b5 : t.getD 0 0 == 34 with
 | true =>
  have e : oneM t = ⟨(strQ 0 (t.drop 1) [] 1).e, (strQ 0 (t.drop 1) [] 1).off, 5, (strQ 0 (t.drop 1) [] 1).text, (strQ 0 (t.drop 1) [] 1).upto_⟩ := by unfold oneM; rw [b1, b2, b3, b4, b5]; rfl
  rw [e] at he ⊢
  obtain ⟨s1, s2⟩ := strQ_wt 0 _ (t.drop 1) [] 1 (Nat.le_refl _) he
  rw [List.length_nil] at s2
  refine ⟨.inr (.inr (.inr (.inr (.inl ⟨rfl, s1⟩)))), ?_⟩
  unfold wtK
  simp only [if_true]
  omega
 | false =>
 cases b6 : [58, 61].isPrefixOf t with
 | true => exact fin 6 (0, 2) (by decide) (by unfold oneM; rw [b1, b2, b3, b4, b5, b6]; rfl) (fun h h1 _ => .inr (.inr (.inr (.inr (.inr ⟨rfl, ne_take _ h1⟩)))))
 | false => exact fin 6 (bif t.getD 0 0 == 124 then 0 else 33, 1) (by decide) (by unfold oneM; rw [b1, b2, b3, b4, b5, b6]; rfl) (fun h h1 _ => .inr (.inr (.inr (.inr (.inr ⟨rfl, ne_take _ h1⟩)))))
def wtW (w : WdD) : Nat := wtK w.kind w.text
def WFW (w : WdD) : Prop := WF w.kind w.text ∧ 1 ≤ wtW w
theorem wdsM_wf : ∀ (m : Nat) (t : Oc) (p : Nat), (∀ w ∈ (wdsM m t p).1, WFW w) ∧ ((wdsM m t p).1.map wtW).sum ≤ t.length
 | 0, t, p => ⟨fun w hw => (by cases hw), Nat.zero_le _⟩
 | m + 1, t, p => by
  rw [wdsM]
  cases h0 : t == [] with
  | true => exact ⟨fun w hw => (by cases hw), Nat.zero_le _⟩
  | false =>
   have ht : t ≠ [] := by simpa using h0
   have hl : 0 < t.length := List.length_pos_iff.2 ht
   simp only [cond_false]
   cases hb : blk (t.getD 0 0) with
   | true =>
    simp only [cond_true]
    obtain ⟨h1, h2⟩ := wdsM_wf m (t.drop 1) (p + 1)
    rw [List.length_drop] at h2
    exact ⟨h1, by omega⟩
   | false =>
    simp only [cond_false]
    cases he : (oneM t).e == 0 with
    | false => exact ⟨fun w hw => (by cases hw), Nat.zero_le _⟩
    | true =>
     simp only [cond_true]
     obtain ⟨h1, h2⟩ := wdsM_wf m (t.drop (oneM t).len) (p + (oneM t).len)
     obtain ⟨o1, o2, o3⟩ := one_wf ht (by simpa using he)
     have l2 := (one_len ht (by simpa using he)).2
     rw [List.length_drop] at h2
     refine ⟨fun w hw => ?_, ?_⟩
     · rcases List.mem_cons.1 hw with rfl | hw
       · exact ⟨o1, o2⟩
       · exact h1 w hw
     · rw [List.map_cons, List.sum_cons]
       have : wtW ⟨(oneM t).kind, (oneM t).text, p⟩ = wtK (oneM t).kind (oneM t).text := rfl
       omega
theorem wtW_text (w : WdD) : w.text.length ≤ wtW w := by unfold wtW wtK; split <;> omega
theorem sumL_pathK : ∀ l : List Oc, sumL l = (pathK l).length
 | [] => rfl
 | s :: l => by
  have := sumL_pathK l
  rw [pathK_cons, List.length_cons, List.length_append, ← this]
  simp only [sumL, List.map_cons, List.sum_cons]
  omega
theorem argB_mk {a : ArgD} (h1 : ∀ s ∈ a.path, isNm s) (h2 : a.path.length ≤ 16) (h3 : 1 ≤ a.kind ∧ a.kind ≤ 7) (h4 : (a.kind = 2 ∧ isNm a.name) ∨ a.name = []) (h5 : a.kind ≤ 2 ∨ a.path = []) (h6 : a.kind = 3 ∨ a.int = 0)
 (h7 : a.kind = 4 ∨ a.text = []) (h8 : a.text.length ≤ 4096) : argB a = true := by
 unfold argB pBad pArgT
 simp only [bif_and, bif_or, Bool.and_eq_true, Bool.or_eq_true, decide_eq_true_eq, Bool.not_eq_true', List.any_eq_false, beq_iff_eq]
 refine ⟨⟨fun s hs => by rw [nm_nameB (h1 s hs)]; decide, h2⟩, ⟨⟨⟨⟨⟨h3, ?_⟩, ?_⟩, h6⟩, h7⟩, by omega⟩⟩
 · rcases h4 with ⟨k, h⟩ | h
   · exact .inl ⟨k, .inr (nm_nameB h)⟩
   · exact .inr h
 · rcases h5 with h | h
   · exact .inl h
   · exact .inr (by rw [h]; rfl)
theorem arg_wf {w : WdD} (hw : WFW w) (he : argE w = 0) : argB (argA w) = true ∧ inR (argA w) ∧ 2 * (aW (argA w) + 1) ≤ 3 * wtW w ∧ aW (argA w) ≤ w.text.length := by
 obtain ⟨hw, hp⟩ := hw
 obtain ⟨k, t, p⟩ := w
 unfold wtW at hp ⊢
 simp only at hw hp ⊢
 have r0 : ∀ (kd : Int) (nm : Oc) (pa : List Oc) (tx : Oc), inR ⟨kd, nm, true, pa, 0, tx⟩ := fun _ _ _ _ => ⟨by show -9223372036854775808 ≤ (0 : Int); decide, by show (0 : Int) ≤ 9223372036854775807; decide⟩
 have nC : ∀ {k : Int}, k ≠ 1 → isC ⟨k, t, p⟩ = false := fun h => isC_no (w := ⟨_, t, p⟩) h
 rcases hw with ⟨rfl, hn⟩ | ⟨rfl, l, h1, rfl⟩ | ⟨rfl, nm, l, h0, h1, rfl⟩ | ⟨rfl, h0, h1⟩ | ⟨rfl, h0⟩ | ⟨rfl, h0⟩
 · -- a constant
   cases hc : isC ⟨1, t, p⟩ with
   | false => unfold argE at he; rw [hc] at he; cases he
   | true =>
    have ha : argA ⟨1, t, p⟩ = ⟨5 + constM t, [], true, [], 0, []⟩ := by unfold argA; rw [hc]; rfl
    have hcc : constM t ≥ 0 := by
     unfold isC at hc
     simpa using hc
    have := (const_lt t).2
    rw [ha]
    refine ⟨argB_mk (by simp) (by simp) ⟨by show 1 ≤ 5 + constM t; omega, by show 5 + constM t ≤ 7; omega⟩ (.inr rfl) (.inr rfl) (.inr rfl) (.inr rfl) (by simp), r0 _ _ _ _, ?_, Nat.zero_le _⟩
    simp only [aW, sumL, List.map_nil, List.sum_nil, List.length_nil]
    omega
 · -- a path
   have hs := steps_join h1
   have ha : argA ⟨2, 46 :: Lib.join l [46], p⟩ = ⟨1, [], true, l, 0, []⟩ := by unfold argA; rw [nC (by decide)]; simp only [cond_false, hs]; rfl
   have h16 : l.length ≤ 16 := by
    unfold argE at he
    rw [nC (by decide)] at he
    simp only [cond_false] at he
    cases hb : stepsB (46 :: Lib.join l [46]) with
    | true => unfold stepsB at hb; rw [hs] at hb; simpa using hb
    | false => rw [hb] at he; cases he
   rw [ha]
   have hlen : (46 :: Lib.join l [46]).length = bif l.isEmpty then 1 else (pathK l).length := by
    cases l with
    | nil => rfl
    | cons s l => rw [join_pathK, pathK_cons]; rfl
   have hle : sumL l + 0 ≤ (46 :: Lib.join l [46]).length ∧ 2 * (sumL l + 1) ≤ 3 * (46 :: Lib.join l [46]).length := by
    rw [hlen, sumL_pathK]
    cases l with
    | nil => exact ⟨Nat.zero_le _, by decide⟩
    | cons s l =>
     have := List.length_pos_iff.2 (h1 s (by simp)).1
     rw [pathK_cons]
     simp only [List.isEmpty_cons, cond_false, List.length_cons, List.length_append]
     omega
   refine ⟨argB_mk h1 h16 ⟨by show (1 : Int) ≤ 1; decide, by show (1 : Int) ≤ 7; decide⟩ (.inr rfl) (.inl (by show (1 : Int) ≤ 2; decide)) (.inr rfl) (.inr rfl) (by simp), r0 _ _ _ _, ?_, ?_⟩
   · unfold aW wtK
     rw [if_neg (by decide)]
     simp only [List.length_nil]
     omega
   · unfold aW
     simp only [List.length_nil]
     omega
 · -- a variable
   have h46 : (46 : UInt8) ∉ nm := by
    rcases h0 with rfl | h
    · simp
    · exact isNm_46 h
   obtain ⟨c1, c2⟩ := cut_var h46 h1
   have ed : (36 :: (nm ++ pathK l)).drop 1 = nm ++ pathK l := rfl
   have ha : argA ⟨3, 36 :: (nm ++ pathK l), p⟩ = ⟨2, nm, true, l, 0, []⟩ := by
    unfold argA
    rw [nC (by decide)]
    simp only [cond_false, ed, c1, c2]
    rfl
   have h16 : l.length ≤ 16 := by
    unfold argE at he
    rw [nC (by decide)] at he
    simp only [cond_false, ed] at he
    cases hb : stepsB (varRest (nm ++ pathK l)) with
    | true => unfold stepsB at hb; rw [c2] at hb; simpa using hb
    | false => rw [hb] at he; cases he
   rw [ha]
   refine ⟨argB_mk h1 h16 ⟨by show (1 : Int) ≤ 2; decide, by show (2 : Int) ≤ 7; decide⟩ (h0.elim .inr (fun h => .inl ⟨rfl, h⟩)) (.inl (by show (2 : Int) ≤ 2; decide)) (.inr rfl) (.inr rfl) (by simp), r0 _ _ _ _, ?_, ?_⟩
   · unfold aW wtK
     rw [if_neg (by decide), sumL_pathK]
     simp only [List.length_nil, List.length_cons, List.length_append]
     omega
   · unfold aW
     rw [sumL_pathK]
     simp only [List.length_nil, List.length_cons, List.length_append]
     omega
 · -- a number
   have ha : argA ⟨4, t, p⟩ = ⟨3, [], true, [], (numM t).1, []⟩ := by unfold argA; rw [nC (by decide)]; rfl
   have hr : -9223372036854775808 ≤ (numM t).1 ∧ (numM t).1 ≤ 9223372036854775807 := by
    have g1 := numL_le (t.drop 1) 0 (by omega)
    have g2 := numL_le t 0 (by omega)
    have z : -9223372036854775808 ≤ (0 : Int) ∧ (0 : Int) ≤ 9223372036854775807 := by decide
    unfold numM
    cases [45].isPrefixOf t with
    | true =>
     simp only [cond_true]
     cases t.drop 1 == []
     · simp only [cond_false]
       cases (t.drop 1).any ndC || (t.drop 1).getD 0 0 == 48
       · simp only [cond_false]
         cases (numL 0 (t.drop 1)).1
         · simp only [cond_false]; omega
         · exact z
       · exact z
     · exact z
    | false =>
     simp only [cond_false]
     cases t == []
     · simp only [cond_false]
       cases t.any ndC || (t.getD 0 0 == 48 && decide (1 < t.length))
       · simp only [cond_false]
         cases (numL 0 t).1
         · simp only [cond_false]
           by_cases hb : (numL 0 t).2 > 9223372036854775807
           · rw [dT hb]; exact z
           · rw [dF hb]; simp only [cond_false]; omega
         · exact z
       · exact z
     · exact z
   rw [ha]
   refine ⟨argB_mk (by simp) (by simp) ⟨by show (1 : Int) ≤ 3; decide, by show (3 : Int) ≤ 7; decide⟩ (.inr rfl) (.inr rfl) (.inl rfl) (.inr rfl) (by simp), hr, ?_, ?_⟩
   · simp only [aW, sumL, List.map_nil, List.sum_nil, List.length_nil]
     omega
   · simp only [aW, sumL, List.map_nil, List.sum_nil, List.length_nil]
     omega
 · -- a text
   have ha : argA ⟨5, t, p⟩ = ⟨4, [], true, [], 0, t⟩ := by unfold argA; rw [nC (by decide)]; rfl
   rw [ha]
   refine ⟨argB_mk (by simp) (by simp) ⟨by show (1 : Int) ≤ 4; decide, by show (4 : Int) ≤ 7; decide⟩ (.inr rfl) (.inr rfl) (.inr rfl) (.inl rfl) h0, r0 _ _ _ _, ?_, ?_⟩
   · simp only [aW, sumL, wtK, List.map_nil, List.sum_nil, List.length_nil, if_true]
     omega
   · simp only [aW, sumL, List.map_nil, List.sum_nil, List.length_nil]
     omega
 · unfold argE at he
   rw [nC (by decide)] at he
   cases he
def ArgW (n : Nat) (a : ArgD) : Prop := argB a = true ∧ inR a ∧ aW a ≤ n
theorem args_wf (n : Nat) : ∀ (l : List WdD), (∀ w ∈ l, WFW w ∧ w.text.length ≤ n) → (argsM l).2 = none → (∀ a ∈ (argsM l).1, ArgW n a) ∧ 2 * ((argsM l).1.map (fun a => aW a + 1)).sum ≤ 3 * (l.map wtW).sum
 | [], _, _ => ⟨fun a ha => (by cases ha), Nat.le_refl _⟩
 | w :: l, h, he => by
  rw [argsM] at he ⊢
  cases hw : argE w == 0 with
  | false => rw [hw] at he; cases he
  | true =>
   rw [hw] at he
   simp only [cond_true] at he ⊢
   obtain ⟨h1, h2⟩ := args_wf n l (fun x hx => h x (by simp [hx])) he
   obtain ⟨g1, g2, g3, g4⟩ := arg_wf (h w (by simp)).1 (by simpa using hw)
   have g5 := (h w (by simp)).2
   refine ⟨fun a ha => ?_, ?_⟩
   · rcases List.mem_cons.1 ha with rfl | ha
     · exact ⟨g1, g2, by omega⟩
     · exact h1 a ha
   · simp only [List.map_cons, List.sum_cons]
     omega
theorem call_wf {n : Nat} {w : WdD} {r : List WdD} {ah : Bool} (h : ∀ x ∈ w :: r, WFW x ∧ x.text.length ≤ n) (he : calE w r ah = none) : callB (calC w r) ah = true ∧ (∀ a ∈ (calC w r).args, ArgW n a) ∧ 2 * cW (calC w r) ≤ 3 * ((w :: r).map wtW).sum ∧ (calC w r).name.length ≤ n := by
 obtain ⟨hw, hl⟩ := h w (by simp)
 have ht := wtW_text w
 unfold calE at he
 cases hn : isName w with
 | true =>
  rw [hn] at he
  simp only [cond_true] at he
  cases ha : (ar w.text).2.2 with
  | false => rw [ha] at he; cases he
  | true =>
   rw [ha] at he
   simp only [Bool.not_true, cond_false] at he
   cases hx : (argsM r).2 with
   | some e => rw [hx] at he; cases he
   | none =>
    rw [hx] at he
    simp only at he
    obtain ⟨h1, h2⟩ := args_wf n r (fun x hx => h x (by simp [hx])) hx
    have hc : calC w r = ⟨w.text, false, (argsM r).1⟩ := by unfold calC; rw [hn]; rfl
    rw [hc]
    refine ⟨?_, h1, ?_, hl⟩
    · unfold callB cBad
      have hb : ((⟨w.text, false, (argsM r).1⟩ : CallD).args.any fun a => !argB a) = false := List.any_eq_false.2 (fun a ha => by rw [(h1 a ha).1]; decide)
      rw [hb, Bool.not_false, Bool.true_and]
      have hne : (w.text == []) = false := by
       cases ht : w.text with
       | nil => rw [ht] at ha; exact absurd ha (by decide)
       | cons c t => rfl
      show cond (w.text == []) _ ((ar w.text).2.2 && _ && _) = true
      rw [hne, cond_false, ha, Bool.true_and]
      have hcount : cCnt ⟨w.text, false, (argsM r).1⟩ ah = (((argsM r).1.length + (bif ah then 1 else 0) : Nat) : Int) := by
       unfold cCnt
       cases ah
       · simp
       · simp
      rw [hcount]
      by_cases g1 : (ar w.text).1 ≤ (((argsM r).1.length + (bif ah then 1 else 0) : Nat) : Int)
      · by_cases g2 : (((argsM r).1.length + (bif ah then 1 else 0) : Nat) : Int) ≤ (ar w.text).2.1
        · rw [dT g1, dT g2]; rfl
        · rw [dF g2, Bool.and_false] at he; cases he
      · have g1' : ¬ (((argsM r).1.length + (bif ah then 1 else 0) : Nat) : Int) ≥ (ar w.text).1 := g1
        rw [dF g1', Bool.false_and] at he; cases he
    · unfold cW
      simp only [List.map_cons, List.sum_cons]
      omega
 | false =>
  rw [hn] at he
  simp only [cond_false] at he
  cases ah with
  | true => cases he
  | false =>
   simp only [cond_false] at he
   cases hE : argE w == 0 with
   | false => rw [hE] at he; cases he
   | true =>
    rw [hE, cond_true] at he
    cases r with
    | cons x r => cases he
    | nil =>
     obtain ⟨g1, g2, g3, g4⟩ := arg_wf hw (by simpa using hE)
     have hc : calC w [] = ⟨[], false, [argA w]⟩ := by unfold calC; rw [hn]; rfl
     rw [hc]
     refine ⟨?_, fun a ha => ?_, ?_, Nat.zero_le _⟩
     · unfold callB cBad
       simp only [List.any_cons, List.any_nil, g1]
       rfl
     · simp only [List.mem_cons, List.not_mem_nil, or_false] at ha
       subst ha
       exact ⟨g1, g2, by omega⟩
     · unfold cW
       simp only [List.map_cons, List.sum_cons, List.map_nil, List.sum_nil, List.length_nil]
       omega
def CallW (n : Nat) (c : CallD) : Prop := (∀ a ∈ c.args, ArgW n a) ∧ c.name.length ≤ n
theorem pPos_cons {w : WdD} {l : List WdD} (h : (w.kind == 6) = false) : pPos (w :: l) = pPos l + 1 := by
 unfold pPos
 rw [List.findIdx_cons]
 have : isSig w = false := h
 rw [this]; rfl
theorem sum_take_drop (f : WdD → Nat) : ∀ (l : List WdD) (p : Nat), p < l.length → ((l.take p).map f).sum + f (l.getD p wd0) + ((l.drop (p + 1)).map f).sum = (l.map f).sum
 | [], p, h => by simp at h
 | w :: l, 0, h => by simp
 | w :: l, p + 1, h => by
  have := sum_take_drop f l p (by simpa using h)
  simp only [List.take_succ_cons, List.drop_succ_cons, List.map_cons, List.sum_cons, List.getD_cons_succ]
  omega
theorem par_wf (n : Nat) : ∀ (m : Nat) (l : List WdD) (cs : List CallD) (at_ : Int) (cs' : List CallD), l ≠ [] → l.length ≤ m → (∀ x ∈ l, WFW x ∧ x.text.length ≤ n) → parM m l cs at_ = (none, cs') →
 ∃ c q, cs' = cs ++ c :: q ∧ callB c (decide (0 < cs.length)) = true ∧ (∀ d ∈ q, callB d true = true) ∧ cs'.length ≤ 16 ∧ (∀ d ∈ c :: q, CallW n d) ∧ 2 * pW (c :: q) ≤ 3 * (l.map wtW).sum + 2
 | 0, l, cs, at_, cs', hne, hm, _, _ => absurd (List.eq_nil_of_length_eq_zero (by omega)) hne
 | m + 1, [], cs, at_, cs', hne, _, _, _ => absurd rfl hne
 | m + 1, w :: l, cs, at_, cs', _, hm, hw, h => by
  rw [parM] at h
  have hh : hdW (w :: l) = w := rfl
  rw [hh] at h
  cases h6 : w.kind == 6 with
  | true => rw [h6] at h; cases h
  | false =>
  rw [h6, cond_false] at h
  have hp := pPos_cons (l := l) h6
  have hE : paE (w :: l) (decide (0 < cs.length)) = calE w (l.take (pPos l)) (decide (0 < cs.length)) := by unfold paE; rw [hp]; rfl
  have hC : paC (w :: l) = calC w (l.take (pPos l)) := by unfold paC; rw [hp]; rfl
  rw [hE, hC, hp] at h
  cases he : calE w (l.take (pPos l)) (decide (0 < cs.length)) with
  | some e => rw [he] at h; cases h
  | none =>
  rw [he] at h
  simp only at h
  by_cases h16 : cs.length < 16
  case neg => rw [dF h16] at h; cases h
  rw [dT h16, Bool.not_true, cond_false] at h
  obtain ⟨g1, g2, g3, g4⟩ := call_wf (n := n) (fun x hx => hw x (by
   rcases List.mem_cons.1 hx with rfl | hx
   · simp
   · exact List.mem_cons_of_mem _ (List.mem_of_mem_take hx))) he
  rw [List.map_cons, List.sum_cons] at g3
  cases hend : pPos l + 1 == (w :: l).length with
  | true =>
   rw [hend, cond_true, Prod.mk.injEq] at h
   have hl : pPos l = l.length := by
    have := beq_iff_eq.1 hend
    rw [List.length_cons] at this; omega
   have e := h.2
   subst e
   refine ⟨calC w (l.take (pPos l)), [], rfl, g1, fun d hd => (by cases hd), by rw [List.length_append, List.length_cons, List.length_nil]; omega, fun d hd => ?_, ?_⟩
   · simp only [List.mem_cons, List.not_mem_nil, or_false] at hd
     subst hd; exact ⟨g2, g4⟩
   · rw [hl, List.take_length] at g3
     unfold pW
     simp only [List.map_cons, List.sum_cons, List.map_nil, List.sum_nil]
     rw [hl, List.take_length]
     omega
  | false =>
  rw [hend, cond_false] at h
  cases hb : !((w :: l).getD (pPos l + 1) wd0).text == [124] with
  | true => rw [hb] at h; cases h
  | false =>
  rw [hb, cond_false] at h
  by_cases hlt : pPos l + 1 + 1 < (w :: l).length
  case neg => rw [dF hlt] at h; cases h
  rw [dT hlt, Bool.not_true, cond_false] at h
  rw [List.length_cons] at hlt hm
  have hd : (w :: l).drop (pPos l + 1 + 1) = l.drop (pPos l + 1) := rfl
  rw [hd] at h
  have hdl : (l.drop (pPos l + 1)).length = l.length - (pPos l + 1) := List.length_drop
  obtain ⟨d, q, i1, i2, i3, i4, i5, i6⟩ := par_wf n m (l.drop (pPos l + 1)) (cs ++ [calC w (l.take (pPos l))]) at_ cs' (fun e => by rw [e] at hdl; simp at hdl; omega) (by omega) (fun x hx => hw x (List.mem_cons_of_mem _ (List.mem_of_mem_drop hx))) h
  have hpos : decide (0 < (cs ++ [calC w (l.take (pPos l))]).length) = true := dT (by rw [List.length_append]; show 0 < _ + 1; omega)
  rw [hpos] at i2
  have hsum := sum_take_drop wtW l (pPos l) (by omega)
  have hbar : 1 ≤ wtW (l.getD (pPos l) wd0) := by
   have hm2 : l.getD (pPos l) wd0 ∈ l := by
    rw [gQ, List.getElem?_eq_getElem (show pPos l < l.length by omega)]
    exact List.getElem_mem _
   exact (hw _ (List.mem_cons_of_mem _ hm2)).1.2
  refine ⟨calC w (l.take (pPos l)), d :: q, by rw [i1]; simp, g1, fun e he => ?_, i4, fun e he => ?_, ?_⟩
  · rcases List.mem_cons.1 he with rfl | he
    · exact i2
    · exact i3 e he
  · rcases List.mem_cons.1 he with rfl | he
    · exact ⟨g2, g4⟩
    · exact i5 e he
  · rw [List.map_cons, List.sum_cons]
    unfold pW at i6 ⊢
    rw [List.map_cons, List.sum_cons]
    omega
theorem pipeB_mk {c : CallD} {q : List CallD} (h1 : callB c false = true) (h2 : ∀ d ∈ q, callB d true = true) (h3 : (c :: q).length ≤ 16) : pipeB (c :: q) = true := by
 unfold pipeB
 rw [dT (show 1 ≤ (c :: q).length ∧ (c :: q).length ≤ 16 from ⟨by simp, h3⟩), Bool.true_and]
 have : (List.range (c :: q).length).any (cHit (c :: q)) = false := List.any_eq_false.2 (fun i hi => by
  unfold cHit
  cases i with
  | zero => rw [List.getD_cons_zero, show decide (0 < 0) = false from rfl, h1]; decide
  | succ i =>
   have hi' : i < q.length := by simpa using hi
   rw [List.getD_cons_succ, gQ, List.getElem?_eq_getElem hi', Option.getD_some, dT (by omega), h2 _ (List.getElem_mem _)]
   decide)
 rw [this]; rfl
theorem argsM_err : ∀ (l : List WdD) (e : Nat × Int), (argsM l).2 = some e → e.2 ≠ 0
 | [], e, h => by cases h
 | w :: l, e, h => by
  rw [argsM] at h
  cases hw : argE w == 0 with
  | true => rw [hw] at h; exact argsM_err l e h
  | false =>
   rw [hw] at h
   simp only [cond_false, sJ] at h
   rw [← h]
   simpa using hw
theorem calE_err {w : WdD} {r : List WdD} {ah : Bool} {e : Nat × Int} (h : calE w r ah = some e) : e.2 ≠ 0 := by
 unfold calE at h
 cases hn : isName w with
 | true =>
  rw [hn, cond_true] at h
  cases ha : (ar w.text).2.2 with
  | false =>
   rw [ha] at h
   simp only [Bool.not_false, cond_true, sJ] at h
   rw [← h]; intro h0; cases h0
  | true =>
   rw [ha] at h
   simp only [Bool.not_true, cond_false] at h
   cases hx : (argsM r).2 with
   | some e2 =>
    rw [hx] at h
    simp only [sJ] at h
    rw [← h]
    exact argsM_err r e2 hx
   | none =>
    rw [hx] at h
    simp only at h
    generalize (decide ((((argsM r).1.length + (bif ah then 1 else 0) : Nat) : Int) ≥ (ar w.text).1) && decide ((((argsM r).1.length + (bif ah then 1 else 0) : Nat) : Int) ≤ (ar w.text).2.1)) = x at h
    cases x
    · simp only [cond_false, sJ] at h
      rw [← h]; intro h0; cases h0
    · cases h
 | false =>
  rw [hn, cond_false] at h
  cases ah with
  | true =>
   simp only [cond_true, sJ] at h
   rw [← h]; intro h0; cases h0
  | false =>
   rw [cond_false] at h
   cases hE : argE w == 0 with
   | false =>
    rw [hE] at h
    simp only [cond_false, sJ] at h
    rw [← h]
    simpa using hE
   | true =>
    rw [hE, cond_true] at h
    cases r with
    | nil => cases h
    | cons x r =>
     simp only [sJ] at h
     rw [← h]; intro h0; cases h0
theorem parM_err : ∀ (m : Nat) (l : List WdD) (cs : List CallD) (at_ : Int) (e : Int × Int) (cs' : List CallD), parM m l cs at_ = (some e, cs') → e.2 ≠ 0
 | 0, l, cs, at_, e, cs', h => by cases h
 | m + 1, l, cs, at_, e, cs', h => by
  have fin : ∀ (a b : Int) (x : List CallD), b ≠ 0 → (some (a, b), x) = (some e, cs') → e.2 ≠ 0 := fun a b x hb h => by
   rw [Prod.mk.injEq, sJ] at h
   rw [← h.1]; exact hb
  rw [parM] at h
  cases h6 : (hdW l).kind == 6 with
  | true => rw [h6] at h; exact fin _ _ _ (by decide) h
  | false =>
  rw [h6, cond_false] at h
  cases he : paE l (decide (0 < cs.length)) with
  | some e2 =>
   rw [he] at h
   unfold paE at he
   exact fin _ _ _ (calE_err he) h
  | none =>
  rw [he] at h
  simp only at h
  by_cases h16 : cs.length < 16
  case neg => rw [dF h16] at h; exact fin _ _ _ (by decide) h
  rw [dT h16, Bool.not_true, cond_false] at h
  cases hend : pPos l == l.length with
  | true => rw [hend] at h; cases h
  | false =>
  rw [hend, cond_false] at h
  cases hb : !(l.getD (pPos l) wd0).text == [124] with
  | true => rw [hb] at h; exact fin _ _ _ (by decide) h
  | false =>
  rw [hb, cond_false] at h
  by_cases hlt : pPos l + 1 < l.length
  case neg => rw [dF hlt] at h; exact fin _ _ _ (by decide) h
  rw [dT hlt, Bool.not_true, cond_false] at h
  exact parM_err m _ _ _ _ _ h
theorem parR_wf (s : Oc) (hs : s.length ≤ 1048576) : (∀ w ∈ wordsOf s, okWd w) ∧ ((parR (wordsOf s) 0).2.2 = 0 → pipeB (parR (wordsOf s) 0).1 = true ∧ pW (parR (wordsOf s) 0).1 ≤ 1572865 ∧ ∀ c ∈ (parR (wordsOf s) 0).1, CallW 1048576 c) := by
 obtain ⟨h1, h2⟩ := wdsM_wf s.length s 0
 have hle : ∀ w ∈ wordsOf s, w.text.length ≤ 1048576 := fun w hw => by
  have := mem_sum wtW (wordsOf s) w hw
  have := wtW_text w
  have : ((wordsOf s).map wtW).sum ≤ s.length := h2
  omega
 refine ⟨fun w hw => ⟨hle w hw, fun h3 => ?_⟩, fun h => ?_⟩
 · obtain ⟨hf, _⟩ := h1 w hw
   rcases hf with ⟨k, _⟩ | ⟨k, _⟩ | ⟨_, nm, l, _, _, e⟩ | ⟨k, _⟩ | ⟨k, _⟩ | ⟨k, _⟩
   · rw [h3] at k; cases k
   · rw [h3] at k; cases k
   · rw [e]; simp
   · rw [h3] at k; cases k
   · rw [h3] at k; cases k
   · rw [h3] at k; cases k
 · unfold parR at h ⊢
   cases hE : (wordsOf s).isEmpty with
   | true => rw [hE] at h; cases h
   | false =>
    rw [hE, cond_false] at h
    rw [cond_false]
    cases hp : parM (wordsOf s).length (wordsOf s) [] 0 with
    | mk o cs =>
     rw [hp] at h
     cases o with
     | some e => exact absurd h (parM_err _ _ _ _ _ _ hp)
     | none =>
      obtain ⟨c, q, e1, e2, e3, e4, e5, e6⟩ := par_wf 1048576 _ (wordsOf s) [] 0 cs (fun e => by rw [e] at hE; cases hE) (Nat.le_refl _) (fun x hx => ⟨h1 x hx, hle x hx⟩) hp
      rw [List.nil_append] at e1
      subst e1
      refine ⟨pipeB_mk e2 e3 e4, ?_, e5⟩
      have : ((wordsOf s).map wtW).sum ≤ s.length := h2
      show pW (c :: q) ≤ 1572865
      omega
end Go.Mu
set_option linter.constructorNameAsVariable false
namespace Go.Mu
open Go Go.Proofs
abbrev Nm := Oc
structure NdD where
 kind : Int
 text : Nm
 name : Nm
 pf : Bool
 pn : Nat
 pr : Nat → Vs
 bf : Bool
 bn : Nat
 br : Nat → Vs
 ef : Bool
 en : Nat
 er : Nat → Vs
 at_ : Int
 esc : Int
 unit : Int
def nd0 : NdD := ⟨0, [], [], true, 0, fun _ => [], true, 0, fun _ => [], true, 0, fun _ => [], 0, 0, 0⟩
def NdD.body (n : NdD) : AVal := .list n.bf n.bn n.br
def NdD.els (n : NdD) : AVal := .list n.ef n.en n.er
def rowOf : AVal → Nat → Vs
 | .list _ _ r => r
 | _ => fun _ => []
def encNd (n : NdD) : Vs := [.int .i64 n.kind, .str n.text, .str n.name, .list n.pf n.pn n.pr, .list n.bf n.bn n.br, .list n.ef n.en n.er, .int .i64 n.at_, .int .i64 n.esc, .int .i64 n.unit]
def cAt (r : Vs) (j : Nat) : AVal := r.getD j .undef
def decNd (r : Vs) : NdD :=
 ⟨intOf (cAt r 0), strOf (cAt r 1), strOf (cAt r 2), fullOf (cAt r 3), lenL (cAt r 3), rowOf (cAt r 3), fullOf (cAt r 4), lenL (cAt r 4), rowOf (cAt r 4), fullOf (cAt r 5), lenL (cAt r 5), rowOf (cAt r 5), intOf (cAt r 6), intOf (cAt r 7), intOf (cAt r 8)⟩
theorem decNd_enc (n : NdD) : decNd (encNd n) = n := rfl
noncomputable def wfNd (r : Vs) : Bool := tst (r = encNd (decNd r))
theorem wfNd_sub (r : Vs) (h : wfNd r = true) : SubL r (encNd (decNd r)) := by rw [← of_tst h]; exact .refl _
theorem wfNd_enc (n : NdD) : wfNd (encNd n) = true := tst_true rfl
abbrev encNds (full : Bool) (l : List NdD) : AVal := encL full encNd nd0 l
abbrev nodes (x : AVal) : List NdD := decL decNd x
theorem nodes_enc (full : Bool) (l : List NdD) : nodes (encNds full l) = l := decL_encL decNd_enc l
structure PcD where
 words : List WdD
 head : Nm
 at_ : Int
def pc0 : PcD := ⟨[], [], 0⟩
structure DfD where
 name : Nm
 ff : Bool
 n : Nat
 row : Nat → Vs
def df0 : DfD := ⟨[], true, 0, fun _ => []⟩
def DfD.body (d : DfD) : AVal := .list d.ff d.n d.row
def encDf (d : DfD) : Vs := [.str d.name, .list d.ff d.n d.row]
def mkDf (name : Nm) (b : AVal) : DfD := ⟨name, fullOf b, lenL b, rowOf b⟩
structure PsD where
 items : List ItemD
 defs : List DfD
 left : Int
 size : Int
 ver : Nat
structure PRes (α : Type) where
 bad : Option (Int × Int)
 v : α
 s : PsD
def psOk {α : Type} (v : α) (s : PsD) : PRes α := ⟨none, v, s⟩
def psBad {α : Type} (v : α) (at_ e : Int) (s : PsD) : PRes α := ⟨some (at_, e), v, s⟩
def PRes.andThen {α β : Type} (r : PRes α) (d : β) (f : α → PsD → PRes β) : PRes β := match r.bad with
 | some b => ⟨some b, d, r.s⟩
 | none => f r.v r.s
def sEnd : Nm := [101, 110, 100]
def sElse : Nm := [101, 108, 115, 101]
def sDefine : Nm := [100, 101, 102, 105, 110, 101]
def sTemplate : Nm := [116, 101, 109, 112, 108, 97, 116, 101]
def sIf : Nm := [105, 102]
def sRange : Nm := [114, 97, 110, 103, 101]
def sWith : Nm := [119, 105, 116, 104]
def kindN (h : Nm) : Int := bif h == sIf then 0 else bif h == sRange then 1 else bif h == sWith then 2 else -1
abbrev it0 : ItemD := ⟨0, [], 0⟩
def wdsE (x : ItemD) : Int := bif (wordsE x.text).isSome then wdErr x.text else 0
def wdsA (x : ItemD) : Int := bif (wordsE x.text).isSome then x.at_ + (wdAt x.text : Int) else x.at_
def atW (b : Int) (d : WdD) : WdD := ⟨d.kind, d.text, b.toNat + d.at_⟩
def wdsL (x : ItemD) : List WdD := bif (wordsE x.text).isSome then [] else (wordsOf x.text).map (atW x.at_)
def headW (l : List WdD) : Nm := bif (l.getD 0 wd0).kind == 1 then (l.getD 0 wd0).text else []
def wordsP (x : ItemD) (s : PsD) : PRes PcD := bif wdsE x == 0 then (bif decide (0 < (wdsL x).length) then psOk ⟨wdsL x, headW (wdsL x), x.at_⟩ s else psBad pc0 x.at_ 33 s) else psBad pc0 (wdsA x) (wdsE x) s
def countP (at_ : Int) (s : PsD) : PRes Unit := bif decide (s.size < 1024) then psOk () { s with size := s.size + 1 } else psBad () at_ 3 s
abbrev pipR (w : PcD) (n : Nat) := parR (w.words.drop n) w.at_
def pipeP (w : PcD) (n : Nat) (s : PsD) : PRes (List CallD) := bif (pipR w n).2.2 == 0 then psOk (pipR w n).1 s else psBad [] (pipR w n).2.1 (pipR w n).2.2 s
def calledP (w : PcD) (s : PsD) : PRes Nm :=
 bif decide (1 < w.words.length) && (w.words.getD 1 wd0).kind == 5 then (bif nameB (w.words.getD 1 wd0).text then psOk (w.words.getD 1 wd0).text s else psBad [] w.at_ 31 s) else psBad [] w.at_ 33 s
def mkNd (kind : Int) (text name : Nm) (pipe body els : AVal) (at_ : Int) : NdD :=
 ⟨kind, text, name, fullOf pipe, lenL pipe, rowOf pipe, fullOf body, lenL body, rowOf body, fullOf els, lenL els, rowOf els, at_, 0, 0⟩
abbrev pipeV (p : List CallD) : AVal := encPipe false p
def singleP (w : PcD) (s : PsD) : PRes NdD :=
 (countP w.at_ s).andThen nd0 fun _ s =>
  bif w.head == sTemplate then
   (calledP w s).andThen nd0 fun n s =>
    bif decide (2 < w.words.length) then (pipeP w 2 s).andThen nd0 fun p s => psOk (mkNd 6 [] n (pipeV p) nilList nilList w.at_) s
    else psOk (mkNd 6 [] n nilList nilList nilList w.at_) s
  else bif (w.words.getD 0 wd0).kind == 3 && decide (1 < w.words.length) && (w.words.getD 1 wd0).text == [58, 61] && (w.words.getD 1 wd0).kind == 6 then
   (bif nameB (w.words.getD 0 wd0).text.tail then (pipeP w 2 s).andThen nd0 fun p s => psOk (mkNd 7 [] (w.words.getD 0 wd0).text.tail (pipeV p) nilList nilList w.at_) s else psBad nd0 w.at_ 33 s)
  else (pipeP w 0 s).andThen nd0 fun p s => psOk (mkNd 2 [] [] (pipeV p) nilList nilList w.at_) s
def lastN (out : List NdD) : NdD := out.getD (out.length - 1) nd0
def textP (out : List NdD) (x : ItemD) (s : PsD) : PRes (List NdD) :=
 bif decide (0 < out.length) && (lastN out).kind == 1 then psOk (out.set (out.length - 1) { lastN out with text := (lastN out).text ++ x.text }) s
 else (countP x.at_ s).andThen [] fun _ s => psOk (out ++ [mkNd 1 x.text [] nilList nilList nilList x.at_]) s
abbrev bodyV (l : List NdD) : AVal := encNds false l
def oneV (n : NdD) : AVal := .list true 1 (fun i => [encNd n].getD i [])
abbrev LoopR := PRes (List NdD × Option PcD)
def endP (deep : Int) (r : List NdD × Option PcD) (s : PsD) : PRes (List NdD × PcD) := match r.2 with
 | some w => psOk (r.1, w) s
 | none => bif decide (deep = 0) then psOk (r.1, pc0) s else psBad (r.1, pc0) s.left 8 s
mutual
def loopP : Nat → Int → List NdD → PsD → LoopR
 | 0, _, out, s => psBad (out, none) 0 1 s
 | f + 1, deep, out, s => match s.items with
  | [] => psOk (out, none) s
  | x :: r =>
   bif x.kind == 1 then (textP out x { s with items := r }).andThen (out, none) fun out s => loopP f deep out s
   else (wordsP x { s with items := r }).andThen (out, none) fun w s =>
    bif w.head == sEnd || w.head == sElse then
     (bif decide (deep > 0) && (w.head == sElse || w.words.length == 1) then psOk (out, some w) s else psBad (out, none) w.at_ 33 s)
    else bif w.head == sDefine then
     (bif decide (deep = 0) then (defineP f w s).andThen (out, none) fun _ s => loopP f deep out s else psBad (out, none) w.at_ 33 s)
    else bif decide (kindN w.head ≥ 0) then
     (blockP f (3 + kindN w.head) w 1 deep s).andThen (out, none) fun n s => loopP f deep (out ++ [n]) s
    else (singleP w s).andThen (out, none) fun n s => loopP f deep (out ++ [n]) s
def blockP : Nat → Int → PcD → Nat → Int → PsD → PRes NdD
 | 0, _, _, _, _, s => psBad nd0 0 1 s
 | f + 1, kind, w, n0, deep, s =>
  (countP w.at_ s).andThen nd0 fun _ s => (pipeP w n0 s).andThen nd0 fun p s =>
  bif decide (deep < 16) then
   ((loopP f (deep + 1) [] s).andThen ([], pc0) (endP (deep + 1))).andThen nd0 fun be s =>
     bif be.2.head == sElse && decide (1 < be.2.words.length) then
      (bif (be.2.words.getD 1 wd0).kind == 1 && (be.2.words.getD 1 wd0).text == sIf then
       (bif decide (deep + 1 < 16) then (blockP f 3 be.2 2 (deep + 1) s).andThen nd0 fun n s => psOk (mkNd kind [] [] (pipeV p) (bodyV be.1) (oneV n) w.at_) s else psBad nd0 be.2.at_ 42 s)
       else psBad nd0 be.2.at_ 33 s)
     else bif be.2.head == sElse then
      ((loopP f (deep + 1) [] s).andThen ([], pc0) (endP (deep + 1))).andThen nd0 fun ee s =>
        bif ee.2.head == sEnd then psOk (mkNd kind [] [] (pipeV p) (bodyV be.1) (bodyV ee.1) w.at_) s else psBad nd0 ee.2.at_ 33 s
     else bif be.2.head == sEnd then psOk (mkNd kind [] [] (pipeV p) (bodyV be.1) nilList w.at_) s else psBad nd0 be.2.at_ 33 s
  else psBad nd0 w.at_ 42 s
def defineP : Nat → PcD → PsD → PRes Unit
 | 0, _, s => psBad () 0 1 s
 | f + 1, w, s =>
  (calledP w s).andThen () fun name s =>
   bif w.words.length == 2 then
    (bif s.defs.any (fun d => d.name == name) then psBad () w.at_ 6 s
    else ((loopP f 1 [] { s with defs := s.defs ++ [mkDf name nilList], ver := s.ver + 1 }).andThen ([], pc0) (endP 1)).andThen () fun be s' =>
     bif be.2.head == sEnd then psOk () { s' with defs := s'.defs.set s.defs.length (mkDf (s'.defs.getD s.defs.length df0).name (bodyV be.1)) } else psBad () be.2.at_ 33 s')
   else psBad () w.at_ 33 s
end
theorem bad_s {α β : Type} {r : PRes α} {d : β} {f : α → PsD → PRes β} {n : Nat} (h : r.s.items.length ≤ n) (hf : r.bad = none → (f r.v r.s).s.items.length ≤ r.s.items.length) : (r.andThen d f).s.items.length ≤ n := by
 unfold PRes.andThen
 split
 · exact h
 · rename_i e; exact Nat.le_trans (hf e) h
theorem count_it (at_ : Int) (s : PsD) : (countP at_ s).s.items = s.items := by
 unfold countP; cases decide (s.size < 1024) <;> rfl
theorem pipe_it (w : PcD) (n : Nat) (s : PsD) : (pipeP w n s).s = s := by
 unfold pipeP; cases (pipR w n).2.2 == 0 <;> rfl
theorem prs_le {α : Type} {c : Bool} {a b : PRes α} {n : Nat} (h1 : a.s.items.length ≤ n) (h2 : b.s.items.length ≤ n) : (bif c then a else b).s.items.length ≤ n := by cases c <;> assumption
theorem called_it (w : PcD) (s : PsD) : (calledP w s).s = s := by
 unfold calledP
 cases (decide (1 < w.words.length) && (w.words.getD 1 wd0).kind == 5)
 · rfl
 · cases nameB (w.words.getD 1 wd0).text <;> rfl
theorem words_it (x : ItemD) (s : PsD) : (wordsP x s).s = s := by
 unfold wordsP
 cases wdsE x == 0
 · rfl
 · cases decide (0 < (wdsL x).length) <;> rfl
theorem single_it (w : PcD) (s : PsD) : (singleP w s).s.items.length ≤ s.items.length := by
 unfold singleP
 refine bad_s (by rw [count_it]; exact Nat.le_refl _) (fun _ => ?_)
 generalize (countP w.at_ s).s = s
 have pp : ∀ n (f : List CallD → NdD), ((pipeP w n s).andThen nd0 fun p s => psOk (f p) s).s.items.length ≤ s.items.length := fun n f => bad_s (by rw [pipe_it]; exact Nat.le_refl _) (fun _ => Nat.le_refl _)
 refine prs_le ?_ (prs_le (prs_le (pp 2 _) (Nat.le_refl _)) (pp 0 _))
 refine bad_s (by rw [called_it]; exact Nat.le_refl _) (fun _ => ?_)
 rw [called_it]
 exact prs_le (pp 2 _) (Nat.le_refl _)
theorem text_it (out : List NdD) (x : ItemD) (s : PsD) : (textP out x s).s.items.length ≤ s.items.length :=
 prs_le (Nat.le_refl _) (bad_s (by rw [count_it]; exact Nat.le_refl _) (fun _ => Nat.le_refl _))
theorem end_it (deep : Int) (r : List NdD × Option PcD) (s : PsD) : (endP deep r s).s = s := by
 unfold endP
 cases r.2 with
 | some w => rfl
 | none => cases decide (deep = 0) <;> rfl
theorem it_all : ∀ (f : Nat), (∀ deep out s, (loopP f deep out s).s.items.length ≤ s.items.length) ∧ (∀ kind w n deep s, (blockP f kind w n deep s).s.items.length ≤ s.items.length) ∧ (∀ w s, (defineP f w s).s.items.length ≤ s.items.length)
 | 0 => ⟨fun _ _ _ => Nat.le_refl _, fun _ _ _ _ _ => Nat.le_refl _, fun _ _ => Nat.le_refl _⟩
 | f + 1 => by
  obtain ⟨hl, hb, hd⟩ := it_all f
  have hn : ∀ deep s, ((loopP f deep [] s).andThen ([], pc0) (endP deep)).s.items.length ≤ s.items.length := fun deep s => bad_s (hl _ _ _) (fun _ => by rw [end_it]; exact Nat.le_refl _)
  refine ⟨fun deep out s => ?_, fun kind w n deep s => ?_, fun w s => ?_⟩
  · rw [loopP]
    cases e : s.items with
    | nil => exact Nat.le_of_eq (congrArg List.length e)
    | cons x r =>
     refine Nat.le_trans ?_ (Nat.le_succ _)
     refine prs_le (bad_s (text_it _ _ _) (fun _ => hl _ _ _)) (bad_s (by rw [words_it]; exact Nat.le_refl _) (fun _ => ?_))
     generalize (wordsP x { s with items := r }).v = w
     generalize (wordsP x { s with items := r }).s = s
     exact prs_le (prs_le (Nat.le_refl _) (Nat.le_refl _)) (prs_le (prs_le (bad_s (hd _ _) (fun _ => hl _ _ _)) (Nat.le_refl _)) (prs_le (bad_s (hb _ _ _ _ _) (fun _ => hl _ _ _)) (bad_s (single_it _ _) (fun _ => hl _ _ _))))
  · rw [blockP]
    refine bad_s (by rw [count_it]; exact Nat.le_refl _) (fun _ => ?_)
    refine bad_s (by rw [pipe_it]; exact Nat.le_refl _) (fun _ => ?_)
    rw [pipe_it]
    generalize (countP w.at_ s).s = s
    generalize (pipeP w n s).v = p
    refine prs_le (bad_s (hn _ _) (fun _ => ?_)) (Nat.le_refl _)
    generalize ((loopP f (deep + 1) [] s).andThen ([], pc0) (endP (deep + 1))).v = be
    generalize ((loopP f (deep + 1) [] s).andThen ([], pc0) (endP (deep + 1))).s = s
    exact prs_le (prs_le (prs_le (bad_s (hb _ _ _ _ _) (fun _ => Nat.le_refl _)) (Nat.le_refl _)) (Nat.le_refl _)) (prs_le (bad_s (hn _ _) (fun _ => prs_le (Nat.le_refl _) (Nat.le_refl _))) (prs_le (Nat.le_refl _) (Nat.le_refl _)))
  · rw [defineP]
    refine bad_s (by rw [called_it]; exact Nat.le_refl _) (fun _ => ?_)
    rw [called_it]
    generalize (calledP w s).v = name
    exact prs_le (prs_le (Nat.le_refl _) (Nat.le_trans (bad_s (hn _ _) (fun _ => prs_le (Nat.le_refl _) (Nat.le_refl _))) (Nat.le_refl _))) (Nat.le_refl _)
end Go.Mu
namespace Go.Mu
open Go Go.Proofs
theorem at_congr {α β : Type} {r : PRes α} {d : β} {f g : α → PsD → PRes β} (h : r.bad = none → f r.v r.s = g r.v r.s) : r.andThen d f = r.andThen d g := by
 unfold PRes.andThen
 cases e : r.bad with
 | some b => rfl
 | none => exact h e
theorem at_ok {α β : Type} {r : PRes α} {d : β} {f : α → PsD → PRes β} (h : r.bad = none) : r.andThen d f = f r.v r.s := by
 unfold PRes.andThen; rw [h]
theorem at_none {α β : Type} {r : PRes α} {d : β} {f : α → PsD → PRes β} (h : (r.andThen d f).bad = none) : r.bad = none ∧ r.andThen d f = f r.v r.s := by
 cases e : r.bad with
 | some b => unfold PRes.andThen at h; rw [e] at h; simp at h
 | none => exact ⟨rfl, at_ok e⟩
theorem bif_cg {α : Type} {c : Bool} {a b a' b' : α} (h1 : c = true → a = a') (h2 : c = false → b = b') : (bif c then a else b) = (bif c then a' else b') := by
 cases c
 · exact h2 rfl
 · exact h1 rfl
theorem loop_cons (f : Nat) (deep : Int) (out : List NdD) (s : PsD) (x : ItemD) (r : List ItemD) (e : s.items = x :: r) : (loopP (f + 1) deep out s).s.items.length ≤ r.length := by
 obtain ⟨hl, hb, hd⟩ := it_all f
 rw [loopP]
 rw [e]
 refine prs_le (bad_s (text_it _ _ _) (fun _ => hl _ _ _)) (bad_s (by rw [words_it]; exact Nat.le_refl _) (fun _ => ?_))
 generalize (wordsP x { s with items := r }).v = w
 generalize (wordsP x { s with items := r }).s = s
 exact prs_le (prs_le (Nat.le_refl _) (Nat.le_refl _)) (prs_le (prs_le (bad_s (hd _ _) (fun _ => hl _ _ _)) (Nat.le_refl _)) (prs_le (bad_s (hb _ _ _ _ _) (fun _ => hl _ _ _)) (bad_s (single_it _ _) (fun _ => hl _ _ _))))
theorem nodes_lt {f : Nat} {deep : Int} {s : PsD} (h : ((loopP f deep [] s).andThen ([], pc0) (endP deep)).bad = none) (hh : ((loopP f deep [] s).andThen ([], pc0) (endP deep)).v.2.head ≠ []) :
 ((loopP f deep [] s).andThen ([], pc0) (endP deep)).s.items.length + 1 ≤ s.items.length := by
 obtain ⟨h1, h2⟩ := at_none h
 rw [h2] at h hh ⊢
 rw [end_it]
 cases f with
 | zero => exact absurd h1 (by simp [loopP, psBad])
 | succ f =>
  cases e : s.items with
  | nil =>
   have e2 : loopP (f + 1) deep [] s = psOk ([], none) s := by rw [loopP]; rw [e]
   rw [e2] at hh
   exact absurd (by unfold endP psOk; cases decide (deep = 0) <;> rfl) hh
  | cons x r =>
   have := loop_cons f deep [] s x r e
   simpa using this
theorem at_cg2 {α β : Type} {r r' : PRes α} {d : β} {f g : α → PsD → PRes β} (e : r = r') (h : r'.bad = none → f r'.v r'.s = g r'.v r'.s) : r.andThen d f = r'.andThen d g := by
 subst e; exact at_congr h
theorem fuel_all : ∀ (f : Nat), (∀ g deep out s, 2 * s.items.length + 1 ≤ f → f ≤ g → loopP g deep out s = loopP f deep out s) ∧ (∀ g kind w n deep s, 2 * s.items.length + 2 ≤ f → f ≤ g → blockP g kind w n deep s = blockP f kind w n deep s) ∧ (∀ g w s, 2 * s.items.length + 2 ≤ f → f ≤ g → defineP g w s = defineP f w s)
 | 0 => ⟨fun _ _ _ _ h => by omega, fun _ _ _ _ _ _ h => by omega, fun _ _ _ h => by omega⟩
 | f + 1 => by
  obtain ⟨hl, hb, hd⟩ := fuel_all f
  refine ⟨fun g deep out s h1 h2 => ?_, fun g kind w n deep s h1 h2 => ?_, fun g w s h1 h2 => ?_⟩
  all_goals obtain ⟨g, rfl⟩ : ∃ g', g = g' + 1 := ⟨g - 1, by omega⟩
  · rw [loopP, loopP]
    cases e : s.items with
    | nil => rfl
    | cons x r =>
     have hlen : s.items.length = r.length + 1 := by rw [e]; rfl
     refine bif_cg (fun _ => at_congr (fun _ => hl g _ _ _ ?_ (by omega))) (fun _ => at_congr (fun _ => ?_))
     · have := text_it out x { s with items := r }
       simp only at this; omega
     have hw : (wordsP x { s with items := r }).s.items.length = r.length := by rw [words_it]
     revert hw
     generalize (wordsP x { s with items := r }).v = w
     generalize (wordsP x { s with items := r }).s = s
     intro hw
     refine bif_cg (fun _ => rfl) (fun _ => bif_cg (fun _ => bif_cg (fun _ => at_cg2 (hd g w s (by omega) (by omega)) (fun _ => hl g _ _ _ ?_ (by omega))) (fun _ => rfl)) (fun _ => bif_cg (fun _ => at_cg2 (hb g _ w _ _ s (by omega) (by omega)) (fun _ => hl g _ _ _ ?_ (by omega))) (fun _ => at_congr (fun _ => hl g _ _ _ ?_ (by omega)))))
     · have := (it_all f).2.2 w s
       omega
     · have := (it_all f).2.1 (3 + kindN w.head) w 1 deep s
       omega
     · have := single_it w s
       omega
  · rw [blockP, blockP]
    refine at_congr (fun _ => at_congr (fun _ => ?_))
    rw [pipe_it]
    have hc : (countP w.at_ s).s.items.length = s.items.length := by rw [count_it]
    revert hc
    generalize (countP w.at_ s).s = s'
    generalize (pipeP w n s').v = p
    intro hc
    refine bif_cg (fun _ => ?_) (fun _ => rfl)
    refine at_cg2 (by rw [hl g (deep + 1) [] s' (by omega) (by omega)]) (fun hbad => ?_)
    have hlt := nodes_lt hbad
    have hle : ((loopP f (deep + 1) [] s').andThen ([], pc0) (endP (deep + 1))).s.items.length ≤ s'.items.length := bad_s ((it_all f).1 _ _ _) (fun _ => by rw [end_it]; exact Nat.le_refl _)
    revert hlt hle
    generalize ((loopP f (deep + 1) [] s').andThen ([], pc0) (endP (deep + 1))).v = be
    generalize ((loopP f (deep + 1) [] s').andThen ([], pc0) (endP (deep + 1))).s = s2
    intro hlt hle
    refine bif_cg (fun he => ?_) (fun _ => bif_cg (fun he => ?_) (fun _ => rfl))
    · have hh : be.2.head ≠ [] := by
       rw [Bool.and_eq_true, beq_iff_eq] at he; rw [he.1]; decide
      have hlt := hlt hh
      exact bif_cg (fun _ => bif_cg (fun _ => at_cg2 (hb g _ _ _ _ s2 (by omega) (by omega)) (fun _ => rfl)) (fun _ => rfl)) (fun _ => rfl)
    · exact at_cg2 (by rw [hl g (deep + 1) [] s2 (by omega) (by omega)]) (fun _ => rfl)
  · rw [defineP, defineP]
    refine at_congr (fun _ => ?_)
    rw [called_it]
    generalize (calledP w s).v = name
    refine bif_cg (fun _ => bif_cg (fun _ => rfl) (fun _ => ?_)) (fun _ => rfl)
    exact at_cg2 (by rw [hl g 1 [] { s with defs := s.defs ++ [mkDf name nilList], ver := s.ver + 1 } (by show 2 * s.items.length + 1 ≤ f; omega) (by omega)]) (fun _ => rfl)
def loopR (deep : Int) (out : List NdD) (s : PsD) : LoopR := loopP (2 * s.items.length + 1) deep out s
def blockR (kind : Int) (w : PcD) (n : Nat) (deep : Int) (s : PsD) : PRes NdD := blockP (2 * s.items.length + 2) kind w n deep s
def defineR (w : PcD) (s : PsD) : PRes Unit := defineP (2 * s.items.length + 2) w s
def nodesR (deep : Int) (s : PsD) : PRes (List NdD × PcD) := (loopR deep [] s).andThen ([], pc0) (endP deep)
theorem loop_fuel {g : Nat} {deep : Int} {out : List NdD} {s : PsD} (h : 2 * s.items.length + 1 ≤ g) : loopP g deep out s = loopR deep out s := (fuel_all _).1 g deep out s (Nat.le_refl _) h
theorem block_fuel {g : Nat} {kind : Int} {w : PcD} {n : Nat} {deep : Int} {s : PsD} (h : 2 * s.items.length + 2 ≤ g) : blockP g kind w n deep s = blockR kind w n deep s := (fuel_all _).2.1 g kind w n deep s (Nat.le_refl _) h
theorem define_fuel {g : Nat} {w : PcD} {s : PsD} (h : 2 * s.items.length + 2 ≤ g) : defineP g w s = defineR w s := (fuel_all _).2.2 g w s (Nat.le_refl _) h
theorem loopR_it (deep : Int) (out : List NdD) (s : PsD) : (loopR deep out s).s.items.length ≤ s.items.length := (it_all _).1 _ _ _
theorem blockR_it (kind : Int) (w : PcD) (n : Nat) (deep : Int) (s : PsD) : (blockR kind w n deep s).s.items.length ≤ s.items.length := (it_all _).2.1 _ _ _ _ _
theorem defineR_it (w : PcD) (s : PsD) : (defineR w s).s.items.length ≤ s.items.length := (it_all _).2.2 _ _
theorem nodesR_it (deep : Int) (s : PsD) : (nodesR deep s).s.items.length ≤ s.items.length := bad_s (loopR_it _ _ _) (fun _ => by rw [end_it]; exact Nat.le_refl _)
theorem nodesR_lt {deep : Int} {s : PsD} (h : (nodesR deep s).bad = none) (hh : (nodesR deep s).v.2.head ≠ []) : (nodesR deep s).s.items.length + 1 ≤ s.items.length := nodes_lt h hh
theorem loopR_nil {deep : Int} {out : List NdD} {s : PsD} (h : s.items = []) : loopR deep out s = psOk (out, none) s := by
 unfold loopR; rw [loopP]; rw [h]
def pieceR (deep : Int) (out : List NdD) (x : ItemD) (s : PsD) : LoopR :=
 bif x.kind == 1 then (textP out x s).andThen (out, none) fun out s => loopR deep out s
 else (wordsP x s).andThen (out, none) fun w s =>
  bif w.head == sEnd || w.head == sElse then
   (bif decide (deep > 0) && (w.head == sElse || w.words.length == 1) then psOk (out, some w) s else psBad (out, none) w.at_ 33 s)
  else bif w.head == sDefine then
   (bif decide (deep = 0) then (defineR w s).andThen (out, none) fun _ s => loopR deep out s else psBad (out, none) w.at_ 33 s)
  else bif decide (kindN w.head ≥ 0) then
   (blockR (3 + kindN w.head) w 1 deep s).andThen (out, none) fun n s => loopR deep (out ++ [n]) s
  else (singleP w s).andThen (out, none) fun n s => loopR deep (out ++ [n]) s
theorem loopR_cons {deep : Int} {out : List NdD} {s : PsD} {x : ItemD} {r : List ItemD} (e : s.items = x :: r) : loopR deep out s = pieceR deep out x { s with items := r } := by
 have hlen : s.items.length = r.length + 1 := by rw [e]; rfl
 unfold loopR pieceR
 rw [loopP]
 rw [e]
 refine bif_cg (fun _ => at_congr (fun _ => loop_fuel ?_)) (fun _ => at_congr (fun _ => ?_))
 · have := text_it out x { s with items := r }
   simp only [List.length_cons] at this ⊢; omega
 have hw : (wordsP x { s with items := r }).s.items.length = r.length := by rw [words_it]
 revert hw
 generalize (wordsP x { s with items := r }).v = w
 generalize (wordsP x { s with items := r }).s = s2
 intro hw
 refine bif_cg (fun _ => rfl) (fun _ => bif_cg (fun _ => bif_cg (fun _ => at_cg2 (define_fuel (by simp only [List.length_cons]; omega)) (fun _ => loop_fuel ?_)) (fun _ => rfl)) (fun _ => bif_cg (fun _ => at_cg2 (block_fuel (by simp only [List.length_cons]; omega)) (fun _ => loop_fuel ?_)) (fun _ => at_congr (fun _ => loop_fuel ?_))))
 · have := defineR_it w s2
   simp only [List.length_cons]; omega
 · have := blockR_it (3 + kindN w.head) w 1 deep s2
   simp only [List.length_cons]; omega
 · have := single_it w s2
   simp only [List.length_cons]; omega
def elseR (kind : Int) (w : PcD) (p : List CallD) (deep : Int) (be : List NdD × PcD) (s : PsD) : PRes NdD :=
 bif be.2.head == sElse && decide (1 < be.2.words.length) then
  (bif (be.2.words.getD 1 wd0).kind == 1 && (be.2.words.getD 1 wd0).text == sIf then
   (bif decide (deep + 1 < 16) then (blockR 3 be.2 2 (deep + 1) s).andThen nd0 fun n s => psOk (mkNd kind [] [] (pipeV p) (bodyV be.1) (oneV n) w.at_) s else psBad nd0 be.2.at_ 42 s)
   else psBad nd0 be.2.at_ 33 s)
 else bif be.2.head == sElse then
  (nodesR (deep + 1) s).andThen nd0 fun ee s =>
   bif ee.2.head == sEnd then psOk (mkNd kind [] [] (pipeV p) (bodyV be.1) (bodyV ee.1) w.at_) s else psBad nd0 ee.2.at_ 33 s
 else bif be.2.head == sEnd then psOk (mkNd kind [] [] (pipeV p) (bodyV be.1) nilList w.at_) s else psBad nd0 be.2.at_ 33 s
theorem blockR_eq (kind : Int) (w : PcD) (n : Nat) (deep : Int) (s : PsD) : blockR kind w n deep s =
 (countP w.at_ s).andThen nd0 fun _ s => (pipeP w n s).andThen nd0 fun p s => bif decide (deep < 16) then (nodesR (deep + 1) s).andThen nd0 (elseR kind w p deep) else psBad nd0 w.at_ 42 s := by
 unfold blockR
 rw [blockP]
 refine at_congr (fun _ => at_congr (fun _ => ?_))
 rw [pipe_it]
 have hc : (countP w.at_ s).s.items.length = s.items.length := by rw [count_it]
 revert hc
 generalize (countP w.at_ s).s = s'
 generalize (pipeP w n s').v = p
 intro hc
 refine bif_cg (fun _ => ?_) (fun _ => rfl)
 refine at_cg2 (by rw [loop_fuel (by omega)]; rfl) (fun hbad => ?_)
 have hlt := nodesR_lt hbad
 have hle := nodesR_it (deep + 1) s'
 revert hlt hle
 generalize (nodesR (deep + 1) s').v = be
 generalize (nodesR (deep + 1) s').s = s2
 intro hlt hle
 unfold elseR
 refine bif_cg (fun he => ?_) (fun _ => bif_cg (fun he => ?_) (fun _ => rfl))
 · have hh : be.2.head ≠ [] := by
    rw [Bool.and_eq_true, beq_iff_eq] at he; rw [he.1]; decide
   have hlt := hlt hh
   exact bif_cg (fun _ => bif_cg (fun _ => at_cg2 (block_fuel (by omega)) (fun _ => rfl)) (fun _ => rfl)) (fun _ => rfl)
 · exact at_cg2 (by rw [loop_fuel (by omega)]; rfl) (fun _ => rfl)
theorem defineR_eq (w : PcD) (s : PsD) : defineR w s = (calledP w s).andThen () fun name s =>
 bif w.words.length == 2 then
  (bif s.defs.any (fun d => d.name == name) then psBad () w.at_ 6 s
  else (nodesR 1 { s with defs := s.defs ++ [mkDf name nilList], ver := s.ver + 1 }).andThen () fun be s' =>
   bif be.2.head == sEnd then psOk () { s' with defs := s'.defs.set s.defs.length (mkDf (s'.defs.getD s.defs.length df0).name (bodyV be.1)) } else psBad () be.2.at_ 33 s')
 else psBad () w.at_ 33 s := by
 unfold defineR
 rw [defineP]
 refine at_congr (fun _ => ?_)
 rw [called_it]
 generalize (calledP w s).v = name
 refine bif_cg (fun _ => bif_cg (fun _ => rfl) (fun _ => ?_)) (fun _ => rfl)
 exact at_cg2 (by rw [loop_fuel (s := { s with defs := s.defs ++ [mkDf name nilList], ver := s.ver + 1 }) (by show 2 * s.items.length + 1 ≤ _; omega)]; rfl) (fun _ => rfl)
end Go.Mu
namespace Go.Mu
open Go
theorem CallOK.meltR {P : Program} {f : FuncId} {xs : Vs} {v : AVal} {H H' : Heap} {sz u : Nat} {rows : List Vs} (hc : CallOK P f xs H (.ret v (H' ++ [.arr sz rows u]))) (hl : H.length ≤ H'.length) (hall : rows.all (fun r => r.all isPure) = true) :
 CallOK P f xs H (.ret (fzV H'.length rows u 6 v) (H'.map (fzO H'.length rows u))) := by
 intro w E cs sim hlen hr
 refine Calls.mono (hc w E cs sim hlen hr) (fun e w' hp => ?_)
 cases e with
 | returned c =>
  obtain ⟨E', ev, sim', hrep⟩ := hp
  exact ⟨fzE H'.length E', ev.melt hl, sim'.melt (hown_melt sim' hall), (fz_rep (hown_melt sim' hall) 6 v c hrep).mono fz_sees⟩
 | panicked _ => exact hp.elim
 | outgrown => exact hp.elim
end Go.Mu
namespace Go.Mu
open Go Go.Proofs
abbrev fltS (at_ e : Int) : AVal := .iface 41 (.agg [.int .i64 at_, .int .i64 e])
def encPc (w : PcD) : Vs := [encWqs false w.words, .str w.head, .int .i64 w.at_]
abbrev pieceV (w : PcD) : AVal := .agg (encPc w)
def pOut {α : Type} (r : PRes α) (f : α → AVal) (hp : PsD → Heap) (k : Out → Ans) : Ans := cond r.bad.isSome (k (.panic (fltS (r.bad.getD (0, 0)).1 (r.bad.getD (0, 0)).2) (hp r.s))) (k (.ret (f r.v) (hp r.s)))
theorem pOut_then {α β : Type} (r : PRes α) (d : β) (g : α → PsD → PRes β) (f : β → AVal) (hp : PsD → Heap) (k : Out → Ans) : pOut (r.andThen d g) f hp k = cond r.bad.isSome (k (.panic (fltS (r.bad.getD (0, 0)).1 (r.bad.getD (0, 0)).2) (hp r.s))) (pOut (g r.v r.s) f hp k) := by
 unfold PRes.andThen
 cases h : r.bad with
 | some b => rfl
 | none => rfl
theorem pOut_one {α : Type} (r : PRes α) (f : α → AVal) (hp : PsD → Heap) : ∃ o, ∀ k : Out → Ans, pOut r f hp k = k o := by
 unfold pOut
 cases r.bad.isSome
 · exact ⟨_, fun k => rfl⟩
 · exact ⟨_, fun k => rfl⟩
noncomputable def layPw1 : Lay := Lay.nil.addF 40 wordsTold
theorem wd_fun (x : ItemD) (H : Heap) (k : Out → Ans) : iFun Tryz.prog (layPw1.hd Tryz.prog) layPw1.fhs 0 21 [.ptr (.hp 4) 0, .agg (encItem x)] H k = (
 let m0 : Nat := (wordsOf x.text).length;
 let n1 : Int := (↑m0 : Int);
 let c2 : Bool := decide (0 < n1);
 let z0 := Out.panic (AVal.iface 41 (AVal.agg [AVal.int .i64 x.at_, AVal.int .i64 33])) H;
  bif decide (x.text.length ≤ 1073741824 ∧ 0 ≤ x.at_ ∧ x.at_ ≤ 1099511627776) then bif (wordsE x.text).isSome then bif !wdErr x.text == 0 then k (Out.panic (AVal.iface 41 (AVal.agg [AVal.int .i64 (x.at_ + (↑(wdAt x.text) : Int)), AVal.int .i64 (wdErr x.text)])) H) else k z0 else bif !decide (n1 > 0) then k z0 else bif c2 then bif ((wordsOf x.text).getD 0 wd0).kind == 1 then bif c2 then k (Out.ret (AVal.agg [AVal.list false m0 fun i => encWd x.at_ ((wordsOf x.text).getD i wd0), AVal.str ((wordsOf x.text).getD 0 wd0).text, AVal.int .i64 x.at_]) H) else none else k (Out.ret (AVal.agg [AVal.list false m0 fun i => encWd x.at_ ((wordsOf x.text).getD i wd0), AVal.str [], AVal.int .i64 x.at_]) H) else none else none) := by kernel_rfl
end Go.Mu
namespace Go.Mu
open Go Go.Proofs
structure PsX where
 U0 : Obj
 U1 : Obj
 U2 : Obj
 it : AVal
 rows : List Vs
 ver : Nat
 left : Int
 size : Int
def PsX.heap (x : PsX) : Heap := x.U0 :: x.U1 :: x.U2 :: .arr 2 x.rows x.ver :: .var [x.it, .own 3 0 x.rows.length x.ver false, .int .i64 x.left, .int .i64 x.size] :: []
def PsX.dec (H : Heap) : PsX := ⟨H.getD 0 (.var []), H.getD 1 (.var []), H.getD 2 (.var []), (cellsO (H.getD 4 (.var []))).getD 0 .undef, rowsO (H.getD 3 (.var [])), verO (H.getD 3 (.var [])), intOf ((cellsO (H.getD 4 (.var []))).getD 2 .undef), intOf ((cellsO (H.getD 4 (.var []))).getD 3 .undef)⟩
abbrev encIts (l : List ItemD) : AVal := encL false encItem it0 l
noncomputable def laySg : Lay := ((Lay.nil.addF 46 oNameTold).addF 64 parTold).addL 26 { hoist := true, hoist2 := true }
theorem sg_fun (U0 U1 U2 : Obj) (it : AVal) (rows : List Vs) (ver : Nat) (left size : Int) (w : PcD) (k : Out → Ans) : iFun Tryz.prog (laySg.hd Tryz.prog) laySg.fhs 0 26 [.ptr (.hp 4) 0, .agg (encPc w)] (PsX.mk U0 U1 U2 it rows ver left size).heap k = (
 let n0 : Int := (↑w.words.length : Int);
 let c1 : Bool := decide (1 < n0);
 let c2 : Bool := decide (n0 > 1);
 let n3 : Int := (w.words.getD 1 wd0).kind;
 let l4 : Oc := (w.words.getD 1 wd0).text;
 let c5 : Bool := decide (n0 ≤ n0);
 let c6 : Bool := decide (2 ≤ n0) && c5;
 let c7 : Bool := tst (parOkR (AVal.list false (n0 - 2).toNat fun (i : Nat) => encWq (w.words.getD (Int.toNat 2 + i) wd0)) ∧ SubL [AVal.list false (n0 - 2).toNat fun (i : Nat) => encWq (w.words.getD (Int.toNat 2 + i) wd0), AVal.int .i64 w.at_] [encWqsR (AVal.list false (n0 - 2).toNat fun (i : Nat) => encWq (w.words.getD (Int.toNat 2 + i) wd0)), AVal.int .i64 w.at_] ∧ ([] : Heap) = []);
 let n8 : Int := parE (AVal.list false (n0 - 2).toNat fun (i : Nat) => encWq (w.words.getD (Int.toNat 2 + i) wd0)) w.at_;
 let c9 : Bool := !n8 == 0;
 let c10 : Bool := decide (0 < n0);
 let c11 : Bool := bif (w.words.getD 0 wd0).kind == 3 then c2 else false;
 let c12 : Bool := bif c11 then l4 == [58, 61] else false;
 let l13 : Oc := (w.words.getD 0 wd0).text;
 let n14 : Int := (↑l13.length : Int);
 let c15 : Bool := decide (1 ≤ n14) && decide (n14 ≤ n14);
 let l16 : Oc := List.drop (Int.toNat 1) (List.take n14.toNat l13);
 let n17 : Int := parE (AVal.list false (n0 - 0).toNat fun (i : Nat) => encWq (w.words.getD (Int.toNat 0 + i) wd0)) w.at_;
 let z0 := [U0, U1, U2, Obj.arr 2 rows ver, Obj.var [it, AVal.own 3 0 rows.length ver false, AVal.int .i64 left, AVal.int .i64 (IntKind.i64.wrap (size + 1))]];
 let z1 := Out.panic (AVal.iface 41 (AVal.agg [AVal.int .i64 w.at_, AVal.int .i64 33])) z0;
  bif !decide (size < 1024) then k (Out.panic (AVal.iface 41 (AVal.agg [AVal.int .i64 w.at_, AVal.int .i64 3])) (PsX.mk U0 U1 U2 it rows ver left size).heap) else bif w.head == [116, 101, 109, 112, 108, 97, 116, 101] then bif c1 || !c2 then bif !bif c2 then n3 == 5 else false then k z1 else bif c1 then bif !nameB l4 then k (Out.panic (AVal.iface 41 (AVal.agg [AVal.int .i64 w.at_, AVal.int .i64 31])) z0) else bif c1 then bif decide (n0 > 2) then bif c6 then bif c7 then bif c9 then k (Out.panic (AVal.iface 41 (AVal.agg [AVal.int .i64 (parA (AVal.list false (n0 - 2).toNat fun (i : Nat) => encWq (w.words.getD (Int.toNat 2 + i) wd0)) w.at_), AVal.int .i64 n8])) z0) else k (Out.ret (AVal.agg [AVal.int .i64 6, AVal.str [], AVal.str l4, AVal.list false (parV (AVal.list false (n0 - 2).toNat fun (i : Nat) => encWq (w.words.getD (Int.toNat 2 + i) wd0)) w.at_).length fun (i : Nat) => encCall ((parV (AVal.list false ((↑w.words.length : Int) - 2).toNat fun (i : Nat) => encWq (w.words.getD (Int.toNat 2 + i) wd0)) w.at_).getD i callD0), AVal.list true 0 fun (x : Nat) => [], AVal.list true 0 fun (x : Nat) => [], AVal.int .i64 w.at_, AVal.int .i64 0, AVal.int .i64 0]) z0) else none else none else k (Out.ret (AVal.agg [AVal.int .i64 6, AVal.str [], AVal.str l4, AVal.list true 0 fun (x : Nat) => [], AVal.list true 0 fun (x : Nat) => [], AVal.list true 0 fun (x : Nat) => [], AVal.int .i64 w.at_, AVal.int .i64 0, AVal.int .i64 0]) z0) else none else none else none else bif c10 then bif c1 || !c11 then bif c1 || !c12 then bif bif c12 then n3 == 6 else false then bif c10 then bif c15 then bif !nameB l16 then k z1 else bif c10 then bif c15 then bif c6 then bif c7 then bif c9 then k (Out.panic (AVal.iface 41 (AVal.agg [AVal.int .i64 (parA (AVal.list false (n0 - 2).toNat fun (i : Nat) => encWq (w.words.getD (Int.toNat 2 + i) wd0)) w.at_), AVal.int .i64 n8])) z0) else k (Out.ret (AVal.agg [AVal.int .i64 7, AVal.str [], AVal.str l16, AVal.list false (parV (AVal.list false (n0 - 2).toNat fun (i : Nat) => encWq (w.words.getD (Int.toNat 2 + i) wd0)) w.at_).length fun (i : Nat) => encCall ((parV (AVal.list false ((↑w.words.length : Int) - 2).toNat fun (i : Nat) => encWq (w.words.getD (Int.toNat 2 + i) wd0)) w.at_).getD i callD0), AVal.list true 0 fun (x : Nat) => [], AVal.list true 0 fun (x : Nat) => [], AVal.int .i64 w.at_, AVal.int .i64 0, AVal.int .i64 0]) z0) else none else none else none else none else none else none else bif c5 then bif tst (parOkR (AVal.list false (n0 - 0).toNat fun (i : Nat) => encWq (w.words.getD (Int.toNat 0 + i) wd0)) ∧ SubL [AVal.list false (n0 - 0).toNat fun (i : Nat) => encWq (w.words.getD (Int.toNat 0 + i) wd0), AVal.int .i64 w.at_] [encWqsR (AVal.list false (n0 - 0).toNat fun (i : Nat) => encWq (w.words.getD (Int.toNat 0 + i) wd0)), AVal.int .i64 w.at_] ∧ ([] : Heap) = []) then bif !n17 == 0 then k (Out.panic (AVal.iface 41 (AVal.agg [AVal.int .i64 (parA (AVal.list false (n0 - 0).toNat fun (i : Nat) => encWq (w.words.getD (Int.toNat 0 + i) wd0)) w.at_), AVal.int .i64 n17])) z0) else k (Out.ret (AVal.agg [AVal.int .i64 2, AVal.str [], AVal.str [], AVal.list false (parV (AVal.list false (n0 - 0).toNat fun (i : Nat) => encWq (w.words.getD (Int.toNat 0 + i) wd0)) w.at_).length fun (i : Nat) => encCall ((parV (AVal.list false ((↑w.words.length : Int) - 0).toNat fun (i : Nat) => encWq (w.words.getD (Int.toNat 0 + i) wd0)) w.at_).getD i callD0), AVal.list true 0 fun (x : Nat) => [], AVal.list true 0 fun (x : Nat) => [], AVal.int .i64 w.at_, AVal.int .i64 0, AVal.int .i64 0]) z0) else none else none else none else none else none) := by kernel_rfl
end Go.Mu
namespace Go.Mu
open Go Go.Proofs
def okIt (x : ItemD) : Prop := x.text.length ≤ 16384 ∧ 0 ≤ x.at_ ∧ x.at_ ≤ 16384
def okS (s : PsD) : Prop := (∀ x ∈ s.items, okIt x) ∧ s.items.length ≤ 32768 ∧ 0 ≤ s.size ∧ s.size ≤ 1024 ∧ s.defs.length + s.items.length ≤ 65536
def okPc (w : PcD) : Prop := 1 ≤ w.words.length ∧ w.words.length ≤ 67108864 ∧ ∀ x ∈ w.words, okWd x
def Stp (s t : PsD) : Prop := okS t ∧ t.items.length ≤ s.items.length ∧ s.defs.length ≤ t.defs.length ∧ t.defs.length + t.items.length ≤ s.defs.length + s.items.length
theorem Stp.refl {s : PsD} (h : okS s) : Stp s s := ⟨h, Nat.le_refl _, Nat.le_refl _, Nat.le_refl _⟩
theorem Stp.trans {s t u : PsD} (h : Stp s t) (g : Stp t u) : Stp s u := ⟨g.1, Nat.le_trans g.2.1 h.2.1, Nat.le_trans h.2.2.1 g.2.2.1, Nat.le_trans g.2.2.2 h.2.2.2⟩
theorem stp_then {α β : Type} {r : PRes α} {d : β} {f : α → PsD → PRes β} {s : PsD} (h : Stp s r.s) (hf : r.bad = none → Stp r.s (f r.v r.s).s) : Stp s (r.andThen d f).s := by
 unfold PRes.andThen
 cases e : r.bad with
 | some b => exact h
 | none => exact h.trans (hf e)
theorem stp_bif {α : Type} {c : Bool} {a b : PRes α} {s : PsD} (h1 : c = true → Stp s a.s) (h2 : c = false → Stp s b.s) : Stp s (bif c then a else b).s := by
 cases c
 · exact h2 rfl
 · exact h1 rfl
theorem stp_count {s : PsD} (h : okS s) (at_ : Int) : Stp s (countP at_ s).s := by
 refine stp_bif (fun hc => ?_) (fun _ => .refl h)
 have hc := of_decide_eq_true hc
 obtain ⟨h1, h2, h3, h4, h5⟩ := h
 exact ⟨⟨h1, h2, by show 0 ≤ s.size + 1; omega, by show s.size + 1 ≤ 1024; omega, h5⟩, Nat.le_refl _, Nat.le_refl _, Nat.le_refl _⟩
theorem stp_pipe {s : PsD} (h : okS s) (w : PcD) (n : Nat) : Stp s (pipeP w n s).s := by rw [pipe_it]; exact .refl h
theorem stp_called {s : PsD} (h : okS s) (w : PcD) : Stp s (calledP w s).s := by rw [called_it]; exact .refl h
theorem stp_single {s : PsD} (h : okS s) (w : PcD) : Stp s (singleP w s).s := by
 unfold singleP
 refine stp_then (stp_count h _) (fun _ => ?_)
 have h := (stp_count h w.at_).1
 revert h
 generalize (countP w.at_ s).s = s
 intro h
 have pp : ∀ n (f : List CallD → NdD), Stp s ((pipeP w n s).andThen nd0 fun p s => psOk (f p) s).s := fun n f => stp_then (stp_pipe h w n) (fun _ => .refl (stp_pipe h w n).1)
 refine stp_bif (fun _ => ?_) (fun _ => stp_bif (fun _ => stp_bif (fun _ => pp 2 _) (fun _ => .refl h)) (fun _ => pp 0 _))
 refine stp_then (stp_called h w) (fun _ => ?_)
 rw [called_it]
 exact stp_bif (fun _ => pp 2 _) (fun _ => .refl h)
theorem stp_text {s : PsD} (h : okS s) (out : List NdD) (x : ItemD) : Stp s (textP out x s).s :=
 stp_bif (fun _ => .refl h) (fun _ => stp_then (stp_count h _) (fun _ => .refl (stp_count h _).1))
theorem stp_end {s : PsD} (h : okS s) (deep : Int) (r : List NdD × Option PcD) : Stp s (endP deep r s).s := by rw [end_it]; exact .refl h
theorem okS_pop {s : PsD} {x : ItemD} {r : List ItemD} (h : okS s) (e : s.items = x :: r) : Stp s { s with items := r } ∧ okIt x ∧ s.defs.length + r.length + 1 ≤ 65536 := by
 obtain ⟨h1, h2, h3, h4, h5⟩ := h
 rw [e] at h1 h2 h5
 simp only [List.length_cons] at h2 h5
 refine ⟨⟨⟨fun y hy => h1 y (List.mem_cons_of_mem _ hy), by show r.length ≤ 32768; omega, h3, h4, by show s.defs.length + r.length ≤ 65536; omega⟩, ?_, Nat.le_refl _, ?_⟩, h1 x (List.mem_cons_self ..), by omega⟩
 · rw [e]; exact Nat.le_succ _
 · rw [e]; show s.defs.length + r.length ≤ s.defs.length + (r.length + 1); omega
def StpD (s t : PsD) : Prop := okS t ∧ t.items.length ≤ s.items.length ∧ s.defs.length ≤ t.defs.length ∧ t.defs.length + t.items.length ≤ s.defs.length + s.items.length + 1
theorem StpD.of {s t : PsD} (h : Stp s t) : StpD s t := ⟨h.1, h.2.1, h.2.2.1, Nat.le_succ_of_le h.2.2.2⟩
theorem stpd_then {α β : Type} {r : PRes α} {d : β} {f : α → PsD → PRes β} {s : PsD} (h : StpD s r.s) (hf : r.bad = none → Stp r.s (f r.v r.s).s) : StpD s (r.andThen d f).s := by
 unfold PRes.andThen
 cases e : r.bad with
 | some b => exact h
 | none =>
  have g := hf e
  exact ⟨g.1, Nat.le_trans g.2.1 h.2.1, Nat.le_trans h.2.2.1 g.2.2.1, Nat.le_trans g.2.2.2 h.2.2.2⟩
theorem stpd_at {α β : Type} {r : PRes α} {d : β} {f : α → PsD → PRes β} {s : PsD} (h : r.s = s) (hs : okS s) (hf : StpD s (f r.v s).s) : StpD s (r.andThen d f).s := by
 unfold PRes.andThen
 cases e : r.bad with
 | some b => show StpD s r.s; rw [h]; exact .of (.refl hs)
 | none => show StpD s (f r.v r.s).s; rw [h]; exact hf
theorem stp_at {α β : Type} {r : PRes α} {d : β} {f : α → PsD → PRes β} {s s1 : PsD} (h : r.s = s1) (hs : Stp s s1) (hf : Stp s (f r.v s1).s) : Stp s (r.andThen d f).s := by
 unfold PRes.andThen
 cases e : r.bad with
 | some b => show Stp s r.s; rw [h]; exact hs
 | none => show Stp s (f r.v r.s).s; rw [h]; exact hf
theorem stpd_bif {α : Type} {c : Bool} {a b : PRes α} {s : PsD} (h1 : c = true → StpD s a.s) (h2 : c = false → StpD s b.s) : StpD s (bif c then a else b).s := by
 cases c
 · exact h2 rfl
 · exact h1 rfl
theorem stp_set {s : PsD} (h : okS s) (i : Nat) (d : DfD) : Stp s { s with defs := s.defs.set i d } := by
 obtain ⟨m1, m2, m3, m4, m5⟩ := h
 have e : (s.defs.set i d).length = s.defs.length := List.length_set
 exact ⟨⟨m1, m2, m3, m4, by show (s.defs.set i d).length + s.items.length ≤ 65536; rw [e]; exact m5⟩, Nat.le_refl _, by show s.defs.length ≤ (s.defs.set i d).length; rw [e]; exact Nat.le_refl _, by show (s.defs.set i d).length + s.items.length ≤ _; rw [e]; exact Nat.le_refl _⟩
theorem stp_all : ∀ (f : Nat), (∀ deep out s, okS s → Stp s (loopP f deep out s).s) ∧ (∀ kind w n deep s, okS s → Stp s (blockP f kind w n deep s).s) ∧ (∀ w s, okS s → s.defs.length + s.items.length + 1 ≤ 65536 → StpD s (defineP f w s).s)
 | 0 => ⟨fun _ _ _ h => .refl h, fun _ _ _ _ _ h => .refl h, fun _ _ h _ => .of (.refl h)⟩
 | f + 1 => by
  obtain ⟨hl, hb, hd⟩ := stp_all f
  have hn : ∀ deep s, okS s → Stp s ((loopP f deep [] s).andThen ([], pc0) (endP deep)).s := fun deep s h => stp_then (hl _ _ _ h) (fun _ => stp_end (hl _ _ _ h).1 _ _)
  refine ⟨fun deep out s h => ?_, fun kind w n deep s h => ?_, fun w s h h1 => ?_⟩
  · rw [loopP]
    cases e : s.items with
    | nil => exact .refl h
    | cons x r =>
     obtain ⟨h1, h2, h3⟩ := okS_pop h e
     refine stp_bif (fun _ => h1.trans (stp_then (stp_text h1.1 _ _) (fun _ => hl _ _ _ (stp_text h1.1 _ _).1))) (fun _ => ?_)
     refine stp_at (words_it _ _) h1 ?_
     generalize (wordsP x { s with items := r }).v = w
     refine stp_bif (fun _ => stp_bif (fun _ => h1) (fun _ => h1)) (fun _ => stp_bif (fun _ => stp_bif (fun _ => ?_) (fun _ => h1)) (fun _ => stp_bif (fun _ => h1.trans (stp_then (hb _ _ _ _ _ h1.1) (fun _ => hl _ _ _ (hb _ _ _ _ _ h1.1).1))) (fun _ => h1.trans (stp_then (stp_single h1.1 _) (fun _ => hl _ _ _ (stp_single h1.1 _).1)))))
     obtain ⟨d1, d2, d3, d4⟩ := hd w { s with items := r } h1.1 h3
     have hst : Stp s (defineP f w { s with items := r }).s := ⟨d1, Nat.le_trans d2 h1.2.1, d3, by rw [e]; exact d4⟩
     exact stp_then hst (fun _ => hl _ _ _ d1)
  · rw [blockP]
    refine stp_then (stp_count h _) (fun _ => ?_)
    have h := (stp_count h w.at_).1
    refine stp_then (stp_pipe h _ _) (fun _ => ?_)
    rw [pipe_it]
    revert h
    generalize (countP w.at_ s).s = s
    intro h
    generalize (pipeP w n s).v = p
    refine stp_bif (fun _ => stp_then (hn _ _ h) (fun _ => ?_)) (fun _ => .refl h)
    have h := (hn (deep + 1) s h).1
    revert h
    generalize ((loopP f (deep + 1) [] s).andThen ([], pc0) (endP (deep + 1))).v = be
    generalize ((loopP f (deep + 1) [] s).andThen ([], pc0) (endP (deep + 1))).s = s
    intro h
    exact stp_bif (fun _ => stp_bif (fun _ => stp_bif (fun _ => stp_then (hb _ _ _ _ _ h) (fun _ => .refl (hb _ _ _ _ _ h).1)) (fun _ => .refl h)) (fun _ => .refl h)) (fun _ => stp_bif (fun _ => stp_then (hn _ _ h) (fun _ => stp_bif (fun _ => .refl (hn _ _ h).1) (fun _ => .refl (hn _ _ h).1))) (fun _ => stp_bif (fun _ => .refl h) (fun _ => .refl h)))
  · rw [defineP]
    refine stpd_at (called_it w s) h ?_
    generalize (calledP w s).v = name
    refine stpd_bif (fun _ => stpd_bif (fun _ => .of (.refl h)) (fun _ => ?_)) (fun _ => .of (.refl h))
    obtain ⟨g1, g2, g3, g4, g5⟩ := h
    have h0 : okS { s with defs := s.defs ++ [mkDf name nilList], ver := s.ver + 1 } := ⟨g1, g2, g3, g4, by show (s.defs ++ [mkDf name nilList]).length + s.items.length ≤ 65536; rw [List.length_append]; simp only [List.length_singleton]; omega⟩
    have hs := hn 1 _ h0
    have hsd : StpD s ((loopP f 1 [] { s with defs := s.defs ++ [mkDf name nilList], ver := s.ver + 1 }).andThen ([], pc0) (endP 1)).s := by
     obtain ⟨k1, k2, k3, k4⟩ := hs
     simp only [List.length_append, List.length_singleton] at k3 k4
     exact ⟨k1, k2, by omega, by omega⟩
    exact stpd_then hsd (fun _ => stp_bif (fun _ => stp_set hs.1 _ _) (fun _ => .refl hs.1))
theorem stp_loopR {s : PsD} (h : okS s) (deep : Int) (out : List NdD) : Stp s (loopR deep out s).s := (stp_all _).1 _ _ _ h
theorem stp_blockR {s : PsD} (h : okS s) (kind : Int) (w : PcD) (n : Nat) (deep : Int) : Stp s (blockR kind w n deep s).s := (stp_all _).2.1 _ _ _ _ _ h
theorem stp_nodesR {s : PsD} (h : okS s) (deep : Int) : Stp s (nodesR deep s).s := stp_then (stp_loopR h _ _) (fun _ => stp_end (stp_loopR h _ _).1 _ _)
theorem stp_defineR {s : PsD} (h : okS s) (h1 : s.defs.length + s.items.length + 1 ≤ 65536) (w : PcD) : StpD s (defineR w s).s := (stp_all _).2.2 _ _ h h1
theorem wdsM_len : ∀ (m : Nat) (t : Oc) (p : Nat), (wdsM m t p).1.length ≤ m
 | 0, _, _ => Nat.le_refl _
 | m + 1, t, p => by
  rw [wdsM]
  cases t == [] with
  | true => exact Nat.zero_le _
  | false =>
  simp only [cond_false]
  cases blk (t.getD 0 0) with
  | true => exact Nat.le_succ_of_le (wdsM_len m _ _)
  | false =>
   simp only [cond_false]
   cases (oneM t).e == 0 with
   | true => exact Nat.succ_le_succ (wdsM_len m _ _)
   | false => exact Nat.zero_le _
theorem words_ok {x : ItemD} {s : PsD} (hx : okIt x) (h : (wordsP x s).bad = none) : okPc (wordsP x s).v := by
 unfold wordsP at h ⊢
 cases he : wdsE x == 0 with
 | false => rw [he] at h; simp [psBad] at h
 | true =>
  rw [he] at h
  simp only [cond_true] at h ⊢
  cases hl : decide (0 < (wdsL x).length) with
  | false => rw [hl] at h; simp [psBad] at h
  | true =>
   simp only [cond_true, psOk]
   have hl := of_decide_eq_true hl
   refine ⟨hl, ?_, ?_⟩
   · show (wdsL x).length ≤ _
     unfold wdsL
     cases (wordsE x.text).isSome with
     | true => exact Nat.zero_le _
     | false =>
      simp only [cond_false, List.length_map]
      have := wdsM_len x.text.length x.text 0
      have := hx.1
      show (wdsM x.text.length x.text 0).1.length ≤ _
      omega
   · intro y hy
     replace hy : y ∈ wdsL x := hy
     unfold wdsL at hy
     cases hs : (wordsE x.text).isSome with
     | true => rw [hs] at hy; simp at hy
     | false =>
      rw [hs] at hy
      simp only [cond_false, List.mem_map] at hy
      obtain ⟨z, hz, rfl⟩ := hy
      exact (parR_wf x.text (by have := hx.1; omega)).1 z hz
def PcOk (r : LoopR) : Prop := r.bad = none → ∀ w, r.v.2 = some w → okPc w
theorem pc_then {α : Type} {r : PRes α} {out : List NdD} {f : α → PsD → LoopR} (h : r.bad = none → PcOk (f r.v r.s)) : PcOk (r.andThen (out, none) f) := by
 unfold PRes.andThen
 cases e : r.bad with
 | some b => intro h; simp at h
 | none => exact h e
theorem pc_bif {c : Bool} {a b : LoopR} (h1 : c = true → PcOk a) (h2 : c = false → PcOk b) : PcOk (bif c then a else b) := by
 cases c
 · exact h2 rfl
 · exact h1 rfl
theorem pc_bad {v : List NdD × Option PcD} {a e : Int} {s : PsD} : PcOk (psBad v a e s) := fun h => by simp [psBad] at h
theorem pc_all : ∀ (f : Nat) deep out s, okS s → PcOk (loopP f deep out s)
 | 0, _, _, _, _ => pc_bad
 | f + 1, deep, out, s, h => by
  have ih := pc_all f
  obtain ⟨hl, hb, hd⟩ := stp_all f
  rw [loopP]
  cases e : s.items with
  | nil => intro _ w hw; simp [psOk] at hw
  | cons x r =>
   obtain ⟨h1, h2, h3⟩ := okS_pop h e
   refine pc_bif (fun _ => pc_then (fun _ => ih _ _ _ (stp_text h1.1 _ _).1)) (fun _ => pc_then (fun hbad => ?_))
   have hw := words_ok h2 hbad
   rw [words_it]
   revert hw
   generalize (wordsP x { s with items := r }).v = w
   intro hw
   refine pc_bif (fun _ => pc_bif (fun _ => ?_) (fun _ => pc_bad)) (fun _ => pc_bif (fun _ => pc_bif (fun _ => pc_then (fun _ => ih _ _ _ (hd w { s with items := r } h1.1 h3).1)) (fun _ => pc_bad)) (fun _ => pc_bif (fun _ => pc_then (fun _ => ih _ _ _ (hb _ _ _ _ _ h1.1).1)) (fun _ => pc_then (fun _ => ih _ _ _ (stp_single h1.1 _).1))))
   intro _ u hu
   have : w = u := by simpa [psOk] using hu
   rw [← this]; exact hw
theorem nodesR_pc {s : PsD} (h : okS s) (deep : Int) (hb : (nodesR deep s).bad = none) (hh : (nodesR deep s).v.2.head ≠ []) : okPc (nodesR deep s).v.2 := by
 obtain ⟨h1, h2⟩ := at_none hb
 have hp := pc_all _ deep [] s h h1
 unfold nodesR at hh ⊢
 rw [h2] at hh ⊢
 unfold endP at hh ⊢
 have hp : ∀ w, (loopR deep [] s).v.2 = some w → okPc w := hp
 cases e : (loopR deep [] s).v.2 with
 | some w => exact hp w e
 | none =>
  rw [e] at hh
  exact absurd (by cases decide (deep = 0) <;> rfl) hh
end Go.Mu
namespace Go.Mu
open Go Go.Proofs
abbrev Obj3 := Obj × Obj × Obj
def hpS (U : Obj3) (s : PsD) : Heap := (PsX.mk U.1 U.2.1 U.2.2 (encIts s.items) (s.defs.map encDf) s.ver s.left s.size).heap
def ndV (n : NdD) : AVal := .agg (encNd n)
theorem drop_enc (l : List WdD) (n : Nat) (m : Int) (h : n ≤ l.length) (e : m = n) : (AVal.list false ((l.length : Int) - m).toNat fun (i : Nat) => encWq (l.getD (m.toNat + i) wd0)) = encWqs false (l.drop n) := by
 subst e
 have e1 : ((l.length : Int) - (n : Int)).toNat = (l.drop n).length := by rw [List.length_drop]; omega
 rw [e1]
 congr 1
 funext i
 rw [Int.toNat_natCast, List.getD_drop]
theorem decWqs_e (f : Bool) (l : List WdD) : decL decWq (encWqs f l) = l := decL_encL (fun w => by unfold decWq encWq; cases w; simp [intOf, strOf]) l
theorem encWqsR_e (f : Bool) (l : List WdD) : encWqsR (encWqs f l) = encWqs f l := by unfold encWqsR; rw [decWqs_e]; rfl
theorem parR_enc (l : List WdD) (a : Int) : parRR (encWqs false l) a = parR l a := by unfold parRR; rw [decWqs_e]
theorem parV_enc (l : List WdD) (a : Int) : parV (encWqs false l) a = (parR l a).1 := by unfold parV; rw [parR_enc]
theorem parA_enc (l : List WdD) (a : Int) : parA (encWqs false l) a = (parR l a).2.1 := by unfold parA; rw [parR_enc]
theorem parE_enc (l : List WdD) (a : Int) : parE (encWqs false l) a = (parR l a).2.2 := by unfold parE; rw [parR_enc]
theorem okPc_drop {w : PcD} (h : okPc w) (n : Nat) : parOkR (encWqs false (w.words.drop n)) := by
 unfold parOkR
 rw [decWqs_e]
 exact ⟨by rw [List.length_drop]; have := h.2.1; omega, fun x hx => h.2.2 x (List.mem_of_mem_drop hx)⟩
theorem par_tst {w : PcD} (h : okPc w) (n : Nat) (v : AVal) : tst (parOkR (encWqs false (w.words.drop n)) ∧ SubL [encWqs false (w.words.drop n), v] [encWqsR (encWqs false (w.words.drop n)), v] ∧ True) = true := by
 rw [encWqsR_e]
 exact tst_true ⟨okPc_drop h n, .refl _, trivial⟩
theorem tail_enc (l : Oc) (h : 1 ≤ l.length) : List.drop (Int.toNat 1) (List.take ((l.length : Int)).toNat l) = l.tail := by
 rw [Int.toNat_natCast, List.take_length]
 cases l <;> rfl
theorem sg_res (U : Obj3) (s : PsD) (w : PcD) (hw : okPc w) (hs : 0 ≤ s.size) (k : Out → Ans) :
 iFun Tryz.prog (laySg.hd Tryz.prog) laySg.fhs 0 26 [.ptr (.hp 4) 0, .agg (encPc w)] (hpS U s) k = pOut (singleP w s) ndV (hpS U) k := by
 refine (sg_fun U.1 U.2.1 U.2.2 (encIts s.items) (s.defs.map encDf) s.ver s.left s.size w k).trans ?_
 have p0 := par_tst hw 0 (.int .i64 w.at_)
 have p2 := par_tst hw 2 (.int .i64 w.at_)
 have d0 := drop_enc w.words 0 0 (by omega) rfl
 obtain ⟨hw1, hw2, hw3⟩ := hw
 have z0 : ((w.words.length : Nat) : Int) - 0 = ((w.words.length : Nat) : Int) - (0 : Int) := rfl
 unfold singleP
 rw [pOut_then]
 unfold countP
 by_cases hc : s.size < 1024
 case neg => simp only [dF hc, Bool.not_false, cond_true, cond_false]; rfl
 have ew : IntKind.i64.wrap (s.size + 1) = s.size + 1 := wrap_of (by omega) (by omega)
 simp only [dT hc, Bool.not_true, cond_false, cond_true, ew, d0, parE_enc, parV_enc, parA_enc, p0, dT (show (0 : Int) < (w.words.length : Int) by omega), dT (show (w.words.length : Int) ≤ (w.words.length : Int) by omega)]
 show _ = pOut (bif w.head == sTemplate then _ else _ : PRes NdD) ndV (hpS U) k
 have eT : (w.head == [116, 101, 109, 112, 108, 97, 116, 101]) = (w.head == sTemplate) := rfl
 rw [eT]
 cases w.head == sTemplate with
 | true =>
  simp only [cond_true]
  unfold calledP
  by_cases h1 : 1 < w.words.length
  case neg =>
   simp only [dF h1, dF (show ¬ (w.words.length : Int) > 1 by omega), dF (show ¬ (1 : Int) < (w.words.length : Int) by omega), Bool.not_false, Bool.or_true, Bool.or_self, Bool.false_and, Bool.false_or, cond_true, cond_false]
   rfl
  simp only [dT h1, dT (show (w.words.length : Int) > 1 by omega), dT (show (1 : Int) < (w.words.length : Int) by omega), Bool.not_true, Bool.true_or, Bool.true_and, Bool.or_false, cond_true]
  cases (w.words.getD 1 wd0).kind == 5 with
  | false => rfl
  | true =>
   simp only [Bool.not_true, cond_false, cond_true]
   cases nameB (w.words.getD 1 wd0).text with
   | false => rfl
   | true =>
    simp only [Bool.not_true, cond_false, cond_true]
    by_cases h2 : 2 < w.words.length
    case neg =>
     simp only [dF h2, dF (show ¬ (w.words.length : Int) > 2 by omega), cond_false]
     rfl
    have d2 := drop_enc w.words 2 2 (by omega) rfl
    simp only [dT h2, dT (show (w.words.length : Int) > 2 by omega), dT (show (2 : Int) ≤ (w.words.length : Int) by omega), d2, p2, parE_enc, parV_enc, parA_enc, Bool.and_self, cond_true]
    unfold pipeP
    cases (parR (w.words.drop 2) w.at_).2.2 == 0 <;> rfl
 | false =>
  simp only [cond_false]
  by_cases h1 : 1 < w.words.length
  case neg =>
   have hk : ∀ x : Bool, (bif x then false else false) = false := fun x => by cases x <;> rfl
   simp only [dF h1, dF (show ¬ (w.words.length : Int) > 1 by omega), dF (show ¬ (1 : Int) < (w.words.length : Int) by omega), hk, Bool.not_false, Bool.or_true, Bool.and_false, Bool.false_and, cond_true, cond_false]
   unfold pipeP
   cases (parR (w.words.drop 0) w.at_).2.2 == 0 <;> rfl
  simp only [dT h1, dT (show (w.words.length : Int) > 1 by omega), dT (show (1 : Int) < (w.words.length : Int) by omega), Bool.not_true, Bool.true_or, Bool.true_and, Bool.and_true, cond_true, bif_and]
  cases hv : ((w.words.getD 0 wd0).kind == 3 && (w.words.getD 1 wd0).text == [58, 61] && (w.words.getD 1 wd0).kind == 6) with
  | false =>
   simp only [cond_false]
   unfold pipeP
   cases (parR (w.words.drop 0) w.at_).2.2 == 0 <;> rfl
  | true =>
   have hk : (w.words.getD 0 wd0).kind = 3 := by
    simp only [Bool.and_eq_true, beq_iff_eq] at hv; exact hv.1.1
   have hm : w.words.getD 0 wd0 ∈ w.words := by rw [gQ, List.getElem?_eq_getElem (by omega)]; exact List.getElem_mem _
   have hl := (hw3 _ hm).2 hk
   have e16 := tail_enc (w.words.getD 0 wd0).text hl
   have d2 := drop_enc w.words 2 2 (by omega) rfl
   simp only [cond_true, e16, dT (show (1 : Int) ≤ ((w.words.getD 0 wd0).text.length : Int) by omega), dT (show ((w.words.getD 0 wd0).text.length : Int) ≤ ((w.words.getD 0 wd0).text.length : Int) by omega), dT (show (2 : Int) ≤ (w.words.length : Int) by omega), d2, p2, parE_enc, parV_enc, parA_enc, Bool.and_self]
   cases nameB (w.words.getD 0 wd0).text.tail with
   | false => rfl
   | true =>
    simp only [Bool.not_true, cond_true, cond_false]
    unfold pipeP
    cases (parR (w.words.drop 2) w.at_).2.2 == 0 <;> rfl
theorem laySg_ok : laySg.OK Tryz.prog := ((Lay.nil_ok.addF oNameTold_ok).addF parTold_ok).addN (by kernel_rfl)
theorem sg_call (U : Obj3) (s : PsD) (w : PcD) (hw : okPc w) (hs : 0 ≤ s.size) : ∃ o, (∀ k : Out → Ans, pOut (singleP w s) ndV (hpS U) k = k o) ∧ CallOK Tryz.prog 26 [.ptr (.hp 4) 0, .agg (encPc w)] (hpS U s) o := by
 obtain ⟨o, ho⟩ := pOut_one (singleP w s) ndV (hpS U)
 exact ⟨o, ho, laySg_ok.call (fun k => (sg_res U s w hw hs k).trans (ho k))⟩
end Go.Mu
namespace Go.Mu
open Go Go.Proofs
def decDf (r : Vs) : DfD := ⟨strOf (cAt r 0), fullOf (cAt r 1), lenL (cAt r 1), rowOf (cAt r 1)⟩
def decSt (it : AVal) (rows : List Vs) (ver : Nat) (left size : Int) : PsD := ⟨decL decItem it, rows.map decDf, left, size, ver⟩
def ndN (deep : Int) (it : AVal) (rows : List Vs) (ver : Nat) (left size : Int) : PRes (List NdD × PcD) := nodesR deep (decSt it rows ver left size)
def bkN (kind : Int) (ws : AVal) (head : Nm) (at_ n deep : Int) (it : AVal) (rows : List Vs) (ver : Nat) (left size : Int) : PRes NdD := blockR kind ⟨decL decWq ws, head, at_⟩ n.toNat deep (decSt it rows ver left size)
def dfN (ws : AVal) (head : Nm) (at_ : Int) (it : AVal) (rows : List Vs) (ver : Nat) (left size : Int) : PRes Unit := defineR ⟨decL decWq ws, head, at_⟩ (decSt it rows ver left size)
def sgN (ws : AVal) (head : Nm) (at_ : Int) (it : AVal) (rows : List Vs) (ver : Nat) (left size : Int) : PRes NdD := singleP ⟨decL decWq ws, head, at_⟩ (decSt it rows ver left size)
abbrev nodesV (v : List NdD × PcD) : AVal := .tuple [encNds false v.1, pieceV v.2]
structure NdA where
 x : PsX
 G : Heap
 deep : Int
structure BkA where
 x : PsX
 G : Heap
 kind : Int
 ws : AVal
 head : Nm
 at_ : Int
 n : Int
 deep : Int
structure SgA where
 x : PsX
 G : Heap
 ws : AVal
 head : Nm
 at_ : Int
abbrev hpX (x : PsX) (G : Heap) (s : PsD) : Heap := hpS (x.U0, x.U1, x.U2) s ++ G
def cellsA : AVal → Vs
 | .agg cs => cs
 | _ => []
noncomputable def ndTold (ok : NdA → Prop) : FSp := mkF (fun xs H => NdA.mk (PsX.dec H) (H.drop 5) (aI xs 1)) ok (fun a => [.ptr (.hp 4) 0, .int .i64 a.deep]) (fun a => a.x.heap ++ a.G)
 (fun a k => pOut (ndN a.deep a.x.it a.x.rows a.x.ver a.x.left a.x.size) nodesV (hpX a.x a.G) k)
noncomputable def bkTold (ok : BkA → Prop) : FSp := mkF (fun xs H => BkA.mk (PsX.dec H) (H.drop 5) (aI xs 1) ((cellsA (xs.getD 2 .undef)).getD 0 .undef) (aS (cellsA (xs.getD 2 .undef)) 1) (aI (cellsA (xs.getD 2 .undef)) 2) (aI xs 3) (aI xs 4)) ok
 (fun a => [.ptr (.hp 4) 0, .int .i64 a.kind, .agg [a.ws, .str a.head, .int .i64 a.at_], .int .i64 a.n, .int .i64 a.deep]) (fun a => a.x.heap ++ a.G)
 (fun a k => pOut (bkN a.kind a.ws a.head a.at_ a.n a.deep a.x.it a.x.rows a.x.ver a.x.left a.x.size) ndV (hpX a.x a.G) k)
noncomputable def dfTold (ok : SgA → Prop) : FSp := mkF (fun xs H => SgA.mk (PsX.dec H) (H.drop 5) ((cellsA (xs.getD 1 .undef)).getD 0 .undef) (aS (cellsA (xs.getD 1 .undef)) 1) (aI (cellsA (xs.getD 1 .undef)) 2)) ok
 (fun a => [.ptr (.hp 4) 0, .agg [a.ws, .str a.head, .int .i64 a.at_]]) (fun a => a.x.heap ++ a.G)
 (fun a k => pOut (dfN a.ws a.head a.at_ a.x.it a.x.rows a.x.ver a.x.left a.x.size) (fun _ => .tuple []) (hpX a.x a.G) k)
noncomputable def sgTold (ok : SgA → Prop) : FSp := mkF (fun xs H => SgA.mk (PsX.dec H) (H.drop 5) ((cellsA (xs.getD 1 .undef)).getD 0 .undef) (aS (cellsA (xs.getD 1 .undef)) 1) (aI (cellsA (xs.getD 1 .undef)) 2)) ok
 (fun a => [.ptr (.hp 4) 0, .agg [a.ws, .str a.head, .int .i64 a.at_]]) (fun a => a.x.heap ++ a.G)
 (fun a k => pOut (sgN a.ws a.head a.at_ a.x.it a.x.rows a.x.ver a.x.left a.x.size) ndV (hpX a.x a.G) k)
noncomputable def layBk (okN : NdA → Prop) (okB : BkA → Prop) : Lay := (((Lay.nil.addF 64 parTold).addF 13 (ndTold okN)).addF 25 (bkTold okB)).addL 25 { hoist := true, hoist2 := true }
theorem bk_fun (okN : NdA → Prop) (okB : BkA → Prop) (U0 U1 U2 : Obj) (it : AVal) (rows : List Vs) (ver : Nat) (left size : Int) (kind : Int) (w : PcD) (n : Nat) (deep : Int) (k : Out → Ans) : iFun Tryz.prog ((layBk okN okB).hd Tryz.prog) (layBk okN okB).fhs 0 25 [.ptr (.hp 4) 0, .int .i64 kind, .agg (encPc w), .int .i64 (n : Int), .int .i64 deep] (PsX.mk U0 U1 U2 it rows ver left size).heap k = (
 let n0 : Int := (↑w.words.length : Int);
 let n1 : Int := parE (AVal.list false (n0 - (↑n : Int)).toNat fun (i : Nat) => encWq (w.words.getD ((↑n : Int).toNat + i) wd0)) w.at_;
 let n2 : Int := IntKind.i64.wrap (size + 1);
 let n3 : Int := IntKind.i64.wrap (deep + 1);
 let z2 := ndN n3 it rows ver left n2;
 let c4 : Bool := z2.v.snd.head == [101, 108, 115, 101];
 let m5 : Nat := z2.v.snd.words.length;
 let n6 : Int := (↑m5 : Int);
 let c7 : Bool := decide (1 < n6);
 let c8 : Bool := (z2.v.snd.words.getD 1 wd0).kind == 1;
 let n9 : Int := z2.v.snd.at_;
 let m10 : Nat := z2.s.ver;
 let n11 : Int := z2.s.left;
 let n12 : Int := z2.s.size;
 let z8 := IntKind.i64.wrap (deep + 1);
 let z0 := ndN z8 it rows ver left (IntKind.i64.wrap (size + 1));
 let z3 := [U0, U1, U2, Obj.arr 2 rows ver, Obj.var [it, AVal.own 3 0 rows.length ver false, AVal.int .i64 left, AVal.int .i64 n2]];
 let z5 := PsX.mk U0 U1 U2 it rows ver left n2;
 let z1 := hpX z5 (List.drop 5 z3) z2.s;
 let z4 := [AVal.ptr (Oid.hp 4) 0, AVal.int .i64 n3];
 let z6 := Out.panic (AVal.iface 41 (AVal.agg [AVal.int .i64 n9, AVal.int .i64 33])) z1;
 let z7 := (↑w.words.length : Int) - (↑n : Int);
  bif !decide (size < 1024) then k (Out.panic (AVal.iface 41 (AVal.agg [AVal.int .i64 w.at_, AVal.int .i64 3])) (PsX.mk U0 U1 U2 it rows ver left size).heap) else bif decide ((↑n : Int) ≤ n0) && decide (n0 ≤ n0) then bif tst (parOkR (AVal.list false (n0 - (↑n : Int)).toNat fun (i : Nat) => encWq (w.words.getD ((↑n : Int).toNat + i) wd0)) ∧ SubL [AVal.list false (n0 - (↑n : Int)).toNat fun (i : Nat) => encWq (w.words.getD ((↑n : Int).toNat + i) wd0), AVal.int .i64 w.at_] [encWqsR (AVal.list false (n0 - (↑n : Int)).toNat fun (i : Nat) => encWq (w.words.getD ((↑n : Int).toNat + i) wd0)), AVal.int .i64 w.at_] ∧ ([] : Heap) = []) then bif !n1 == 0 then k (Out.panic (AVal.iface 41 (AVal.agg [AVal.int .i64 (parA (AVal.list false (n0 - (↑n : Int)).toNat fun (i : Nat) => encWq (w.words.getD ((↑n : Int).toNat + i) wd0)) w.at_), AVal.int .i64 n1])) z3) else bif !decide (deep < 16) then k (Out.panic (AVal.iface 41 (AVal.agg [AVal.int .i64 w.at_, AVal.int .i64 42])) z3) else bif tst (okN (NdA.mk z5 (List.drop 5 z3) n3) ∧ SubL z4 z4 ∧ z3 = z3) then bif z2.bad.isSome then k (Out.panic (fltS (z2.bad.getD (0, 0)).fst (z2.bad.getD (0, 0)).snd) z1) else bif bif c4 then decide (n6 > 1) else false then bif c7 then bif c7 || !c8 then bif !bif c8 then (z2.v.snd.words.getD 1 wd0).text == [105, 102] else false then k z6 else bif !decide (n3 < 16) then k (Out.panic (AVal.iface 41 (AVal.agg [AVal.int .i64 n9, AVal.int .i64 42])) z1) else bif tst (okB (BkA.mk (PsX.mk U0 U1 U2 (AVal.list false z2.s.items.length fun i => encItem (z0.s.items.getD i (ItemD.mk 0 [] 0))) (List.map encDf z2.s.defs) m10 n11 n12) (List.drop 5 z1) 3 (AVal.list false m5 fun i => encWq (z0.v.snd.words.getD i wd0)) z2.v.snd.head n9 2 n3) ∧ SubL [AVal.ptr (Oid.hp 4) 0, AVal.int .i64 3, AVal.agg [AVal.list false m5 fun i => encWq (z0.v.snd.words.getD i wd0), AVal.str z2.v.snd.head, AVal.int .i64 n9], AVal.int .i64 2, AVal.int .i64 n3] [AVal.ptr (Oid.hp 4) 0, AVal.int .i64 3, AVal.agg [AVal.list false m5 fun i => encWq (z0.v.snd.words.getD i wd0), AVal.str z2.v.snd.head, AVal.int .i64 n9], AVal.int .i64 2, AVal.int .i64 n3] ∧ hpX z5 (List.drop 5 z3) z2.s = [U0, U1, U2, Obj.arr 2 (List.map encDf z2.s.defs) m10, Obj.var [AVal.list false z2.s.items.length fun i => encItem (z0.s.items.getD i (ItemD.mk 0 [] 0)), AVal.own 3 0 (List.map encDf z2.s.defs).length m10 false, AVal.int .i64 n11, AVal.int .i64 n12]]) then bif (bkN 3 (AVal.list false m5 fun i => encWq (z0.v.snd.words.getD i wd0)) z2.v.snd.head n9 2 n3 (AVal.list false z2.s.items.length fun i => encItem (z0.s.items.getD i (ItemD.mk 0 [] 0))) (List.map encDf z2.s.defs) m10 n11 n12).bad.isSome then k (Out.panic (fltS ((bkN 3 (AVal.list false m5 fun i => encWq (z0.v.snd.words.getD i wd0)) z2.v.snd.head n9 2 n3 (AVal.list false z2.s.items.length fun i => encItem (z0.s.items.getD i (ItemD.mk 0 [] 0))) (List.map encDf z2.s.defs) m10 n11 n12).bad.getD (0, 0)).fst ((bkN 3 (AVal.list false m5 fun i => encWq (z0.v.snd.words.getD i wd0)) z2.v.snd.head n9 2 n3 (AVal.list false z2.s.items.length fun i => encItem (z0.s.items.getD i (ItemD.mk 0 [] 0))) (List.map encDf z2.s.defs) m10 n11 n12).bad.getD (0, 0)).snd) (hpX (PsX.mk U0 U1 U2 (AVal.list false z2.s.items.length fun i => encItem (z0.s.items.getD i (ItemD.mk 0 [] 0))) (List.map encDf z2.s.defs) m10 n11 n12) (List.drop 5 z1) (bkN 3 (AVal.list false m5 fun i => encWq (z0.v.snd.words.getD i wd0)) z2.v.snd.head n9 2 n3 (AVal.list false z2.s.items.length fun i => encItem (z0.s.items.getD i (ItemD.mk 0 [] 0))) (List.map encDf z2.s.defs) m10 n11 n12).s)) else k (Out.ret (AVal.agg [AVal.int .i64 kind, AVal.str [], AVal.str [], AVal.list false (parV (AVal.list false (n0 - (↑n : Int)).toNat fun (i : Nat) => encWq (w.words.getD ((↑n : Int).toNat + i) wd0)) w.at_).length fun (i : Nat) => encCall ((parV (AVal.list false z7.toNat fun i => encWq (w.words.getD ((↑n : Int).toNat + i) wd0)) w.at_).getD i callD0), AVal.list false z2.v.fst.length fun i => encNd (z0.v.fst.getD i nd0), AVal.list true 1 fun i => [encNd (bkN 3 (AVal.list false z0.v.snd.words.length fun i => encWq (z0.v.snd.words.getD i wd0)) z0.v.snd.head z0.v.snd.at_ 2 z8 (AVal.list false z0.s.items.length fun i => encItem (z0.s.items.getD i (ItemD.mk 0 [] 0))) (List.map encDf z0.s.defs) z0.s.ver z0.s.left z0.s.size).v].getD i [], AVal.int .i64 w.at_, AVal.int .i64 0, AVal.int .i64 0]) (hpX (PsX.mk U0 U1 U2 (AVal.list false z2.s.items.length fun i => encItem (z0.s.items.getD i (ItemD.mk 0 [] 0))) (List.map encDf z2.s.defs) m10 n11 n12) (List.drop 5 z1) (bkN 3 (AVal.list false m5 fun i => encWq (z0.v.snd.words.getD i wd0)) z2.v.snd.head n9 2 n3 (AVal.list false z2.s.items.length fun i => encItem (z0.s.items.getD i (ItemD.mk 0 [] 0))) (List.map encDf z2.s.defs) m10 n11 n12).s)) else none else none else none else bif c4 then bif tst (okN (NdA.mk (PsX.mk U0 U1 U2 (AVal.list false z2.s.items.length fun i => encItem (z0.s.items.getD i (ItemD.mk 0 [] 0))) (List.map encDf z2.s.defs) m10 n11 n12) (List.drop 5 z1) n3) ∧ SubL z4 z4 ∧ hpX z5 (List.drop 5 z3) z2.s = [U0, U1, U2, Obj.arr 2 (List.map encDf z2.s.defs) m10, Obj.var [AVal.list false z2.s.items.length fun i => encItem (z0.s.items.getD i (ItemD.mk 0 [] 0)), AVal.own 3 0 (List.map encDf z2.s.defs).length m10 false, AVal.int .i64 n11, AVal.int .i64 n12]]) then bif (ndN n3 (AVal.list false z2.s.items.length fun i => encItem (z0.s.items.getD i (ItemD.mk 0 [] 0))) (List.map encDf z2.s.defs) m10 n11 n12).bad.isSome then k (Out.panic (fltS ((ndN n3 (AVal.list false z2.s.items.length fun i => encItem (z0.s.items.getD i (ItemD.mk 0 [] 0))) (List.map encDf z2.s.defs) m10 n11 n12).bad.getD (0, 0)).fst ((ndN n3 (AVal.list false z2.s.items.length fun i => encItem (z0.s.items.getD i (ItemD.mk 0 [] 0))) (List.map encDf z2.s.defs) m10 n11 n12).bad.getD (0, 0)).snd) (hpX (PsX.mk U0 U1 U2 (AVal.list false z2.s.items.length fun i => encItem (z0.s.items.getD i (ItemD.mk 0 [] 0))) (List.map encDf z2.s.defs) m10 n11 n12) (List.drop 5 z1) (ndN n3 (AVal.list false z2.s.items.length fun i => encItem (z0.s.items.getD i (ItemD.mk 0 [] 0))) (List.map encDf z2.s.defs) m10 n11 n12).s)) else bif !(ndN n3 (AVal.list false z2.s.items.length fun i => encItem (z0.s.items.getD i (ItemD.mk 0 [] 0))) (List.map encDf z2.s.defs) m10 n11 n12).v.snd.head == [101, 110, 100] then k (Out.panic (AVal.iface 41 (AVal.agg [AVal.int .i64 (ndN n3 (AVal.list false z2.s.items.length fun i => encItem (z0.s.items.getD i (ItemD.mk 0 [] 0))) (List.map encDf z2.s.defs) m10 n11 n12).v.snd.at_, AVal.int .i64 33])) (hpX (PsX.mk U0 U1 U2 (AVal.list false z2.s.items.length fun i => encItem (z0.s.items.getD i (ItemD.mk 0 [] 0))) (List.map encDf z2.s.defs) m10 n11 n12) (List.drop 5 z1) (ndN n3 (AVal.list false z2.s.items.length fun i => encItem (z0.s.items.getD i (ItemD.mk 0 [] 0))) (List.map encDf z2.s.defs) m10 n11 n12).s)) else k (Out.ret (AVal.agg [AVal.int .i64 kind, AVal.str [], AVal.str [], AVal.list false (parV (AVal.list false (n0 - (↑n : Int)).toNat fun (i : Nat) => encWq (w.words.getD ((↑n : Int).toNat + i) wd0)) w.at_).length fun (i : Nat) => encCall ((parV (AVal.list false z7.toNat fun i => encWq (w.words.getD ((↑n : Int).toNat + i) wd0)) w.at_).getD i callD0), AVal.list false z2.v.fst.length fun i => encNd (z0.v.fst.getD i nd0), AVal.list false (ndN n3 (AVal.list false z2.s.items.length fun i => encItem (z0.s.items.getD i (ItemD.mk 0 [] 0))) (List.map encDf z2.s.defs) m10 n11 n12).v.fst.length fun (i : Nat) => encNd ((ndN z8 (AVal.list false z0.s.items.length fun i => encItem (z0.s.items.getD i (ItemD.mk 0 [] 0))) (List.map encDf z0.s.defs) z0.s.ver z0.s.left z0.s.size).v.fst.getD i nd0), AVal.int .i64 w.at_, AVal.int .i64 0, AVal.int .i64 0]) (hpX (PsX.mk U0 U1 U2 (AVal.list false z2.s.items.length fun i => encItem (z0.s.items.getD i (ItemD.mk 0 [] 0))) (List.map encDf z2.s.defs) m10 n11 n12) (List.drop 5 z1) (ndN n3 (AVal.list false z2.s.items.length fun i => encItem (z0.s.items.getD i (ItemD.mk 0 [] 0))) (List.map encDf z2.s.defs) m10 n11 n12).s)) else none else bif !z2.v.snd.head == [101, 110, 100] then k z6 else k (Out.ret (AVal.agg [AVal.int .i64 kind, AVal.str [], AVal.str [], AVal.list false (parV (AVal.list false (n0 - (↑n : Int)).toNat fun (i : Nat) => encWq (w.words.getD ((↑n : Int).toNat + i) wd0)) w.at_).length fun (i : Nat) => encCall ((parV (AVal.list false z7.toNat fun i => encWq (w.words.getD ((↑n : Int).toNat + i) wd0)) w.at_).getD i callD0), AVal.list false z2.v.fst.length fun i => encNd (z0.v.fst.getD i nd0), AVal.list true 0 fun (x : Nat) => [], AVal.int .i64 w.at_, AVal.int .i64 0, AVal.int .i64 0]) z1) else none else none else none) := by kernel_rfl
end Go.Mu
namespace Go.Mu
open Go Go.Proofs
structure PwA where
 x : ItemD
 H : Heap
def ps0 : PsD := ⟨[], [], 0, 0, 0⟩
def wdN (x : ItemD) : PRes PcD := wordsP x ps0
noncomputable def pwTold : FSp := mkF (fun xs H => PwA.mk (decItem (cellsA (xs.getD 1 .undef))) H) (fun a => a.x.text.length ≤ 16384 ∧ 0 ≤ a.x.at_ ∧ a.x.at_ ≤ 16384) (fun a => [.ptr (.hp 4) 0, .agg (encItem a.x)]) (fun a => a.H) (fun a k => pOut (wdN a.x) pieceV (fun _ => a.H) k)
noncomputable def layN0 (okD okS : SgA → Prop) (okB : BkA → Prop) : Lay := ((((Lay.nil.addF 21 pwTold).addF 41 ixsTold).addF 24 (dfTold okD)).addF 26 (sgTold okS)).addF 25 (bkTold okB)
abbrev pcZ : Vs := [nilList, .str [], .int .i64 0]
def outK (out : List NdD) (F : AVal → Heap → Ans) : Ans := cond out.isEmpty (F nilList []) (F (.own 5 0 (out.map encNd).length (out.length - 1) false) [.arr 9 (out.map encNd) (out.length - 1)])
def ndL (deep : Int) (it : AVal) (rows : List Vs) (ver : Nat) (left size : Int) : LoopR := loopR deep [] (decSt it rows ver left size)
abbrev vsP (deep : Int) : Vs := [.ptr (.hp 4) 0, .int .i64 deep, .undef, .ptr (.tmp 5) 0, .undef]
def ndPost (a : NdA) (k : AExit → Vs → List Vs → Heap → Ans) : Ans :=
 cond (ndL a.deep a.x.it a.x.rows a.x.ver a.x.left a.x.size).bad.isSome
  (outK (ndL a.deep a.x.it a.x.rows a.x.ver a.x.left a.x.size).v.1 fun o G => k (.panic (fltS ((ndL a.deep a.x.it a.x.rows a.x.ver a.x.left a.x.size).bad.getD (0, 0)).1 ((ndL a.deep a.x.it a.x.rows a.x.ver a.x.left a.x.size).bad.getD (0, 0)).2)) (vsP a.deep) [[]] (hpX a.x G (ndL a.deep a.x.it a.x.rows a.x.ver a.x.left a.x.size).s))
  (cond (ndL a.deep a.x.it a.x.rows a.x.ver a.x.left a.x.size).v.2.isSome
   (outK (ndL a.deep a.x.it a.x.rows a.x.ver a.x.left a.x.size).v.1 fun o G => k .ret [.ptr (.hp 4) 0, .int .i64 a.deep, o, .ptr (.tmp 5) 0, o] [encPc ((ndL a.deep a.x.it a.x.rows a.x.ver a.x.left a.x.size).v.2.getD pc0)] (hpX a.x G (ndL a.deep a.x.it a.x.rows a.x.ver a.x.left a.x.size).s))
   (outK (ndL a.deep a.x.it a.x.rows a.x.ver a.x.left a.x.size).v.1 fun o G => k (.exit 0) [.ptr (.hp 4) 0, .int .i64 a.deep, .undef, .ptr (.tmp 5) 0, o] [pcZ] (hpX a.x G (ndL a.deep a.x.it a.x.rows a.x.ver a.x.left a.x.size).s)))
noncomputable def ndSp (ok : NdA → Prop) : LSp := mkL (fun vs _ H => NdA.mk (PsX.dec H) [] (aI vs 1)) ok (fun a => [.ptr (.hp 4) 0, .int .i64 a.deep, .ptr (.tmp 5) 0, nilList]) (fun _ => [pcZ]) (fun a => a.x.heap) ndPost
noncomputable def ndFH (ok : NdA → Prop) : FH := FH.of [(2, loopSpec 109 [0,1,5,6] [5] [0,1,4,5,6] [5] (ndSp ok))]
theorem nd_step0 (okL : NdA → Prop) (okD okS : SgA → Prop) (okB : BkA → Prop) (U0 U1 U2 : Obj) (its : List ItemD) (rows : List Vs) (ver : Nat) (left size deep : Int) (D : Dfs) (k : Kont) : lturn Tryz.prog (layN0 okD okS okB) (ndFH okL) 13 2 [0,1,5,6] [5] [0,1,4,5,6] [5] (stL 109 [0,1,5,6] [.ptr (.hp 4) 0, .int .i64 deep, .ptr (.tmp 5) 0, nilList] [5] [pcZ] (PsX.mk U0 U1 U2 (encIts its) rows ver left size).heap D) k = (
 let n0 : Int := (↑its.length : Int);
 let z4 := its.getD 0 (ItemD.mk 0 [] 0);
 let n1 : Int := z4.kind;
 let n2 : Int := z4.at_;
 let l3 : Oc := z4.text;
 let c4 : Bool := (wdN (ItemD.mk n1 l3 n2)).v.head == [101, 108, 115, 101];
 let m5 : Nat := (wdN (ItemD.mk n1 l3 n2)).v.words.length;
 let n6 : Int := (wdN (ItemD.mk n1 l3 n2)).v.at_;
 let z3 := [[AVal.str [105, 102]], [AVal.str [114, 97, 110, 103, 101]], [AVal.str [119, 105, 116, 104]]];
 let n7 : Int := idxS (decL decS (AVal.list true 3 fun i => z3.getD i [])) (wdN (ItemD.mk n1 l3 n2)).v.head;
 let n8 : Int := IntKind.i64.wrap (3 + n7);
 let z0 := wdN (ItemD.mk z4.kind z4.text z4.at_);
 let m9 : Nat := (bkN n8 (AVal.list false m5 fun i => encWq (z0.v.words.getD i wd0)) (wdN (ItemD.mk n1 l3 n2)).v.head n6 1 deep (AVal.list false (n0 - 1).toNat fun (i : Nat) => encItem (its.getD (Int.toNat 1 + i) (ItemD.mk 0 [] 0))) rows ver left size).s.ver;
 let m10 : Nat := (sgN (AVal.list false m5 fun i => encWq (z0.v.words.getD i wd0)) (wdN (ItemD.mk n1 l3 n2)).v.head n6 (AVal.list false (n0 - 1).toNat fun (i : Nat) => encItem (its.getD (Int.toNat 1 + i) (ItemD.mk 0 [] 0))) rows ver left size).s.ver;
 let z1 := [AVal.ptr (Oid.hp 4) 0, AVal.int .i64 deep, AVal.ptr (Oid.tmp 5) 0, AVal.own 5 0 (0 + 1) 0 false];
 let z2 := [AVal.ptr (Oid.hp 4) 0, AVal.int .i64 deep, AVal.undef, AVal.ptr (Oid.tmp 5) 0, AVal.undef];
 let z5 := AExit.panic (AVal.iface 41 (AVal.agg [AVal.int .i64 n6, AVal.int .i64 33]));
  bif decide (n0 > 0) then bif decide (0 < n0) then bif decide (1 ≤ n0) && decide (n0 ≤ n0) then bif n1 == 1 then bif !decide (size < 1024) then k (AExit.panic (AVal.iface 41 (AVal.agg [AVal.int .i64 n2, AVal.int .i64 3]))) (stL 109 [0, 1, 4, 5, 6] z2 [5] [[]] [U0, U1, U2, Obj.arr 2 rows ver, Obj.var [AVal.list false (n0 - 1).toNat fun (i : Nat) => encItem (its.getD (Int.toNat 1 + i) (ItemD.mk 0 [] 0)), AVal.own 3 0 rows.length ver false, AVal.int .i64 left, AVal.int .i64 size]] D) else k AExit.normal (stL 109 [0, 1, 5, 6] z1 [5] [[AVal.list true 0 fun (x : Nat) => [], AVal.str [], AVal.int .i64 0]] [U0, U1, U2, Obj.arr 2 rows ver, Obj.var [AVal.list false (n0 - 1).toNat fun (i : Nat) => encItem (its.getD (Int.toNat 1 + i) (ItemD.mk 0 [] 0)), AVal.own 3 0 rows.length ver false, AVal.int .i64 left, AVal.int .i64 (IntKind.i64.wrap (size + 1))], Obj.arr 9 [[AVal.int .i64 1, AVal.str l3, AVal.str [], AVal.list true 0 fun (x : Nat) => [], AVal.list true 0 fun (x : Nat) => [], AVal.list true 0 fun (x : Nat) => [], AVal.int .i64 n2, AVal.int .i64 0, AVal.int .i64 0]] 0] D) else bif tst ((l3.length ≤ 16384 ∧ 0 ≤ n2 ∧ n2 ≤ 16384) ∧ SubL [AVal.ptr (Oid.hp 4) 0, AVal.agg [AVal.int .i64 n1, AVal.str l3, AVal.int .i64 n2]] [AVal.ptr (Oid.hp 4) 0, AVal.agg (encItem (ItemD.mk n1 l3 n2))] ∧ [U0, U1, U2, Obj.arr 2 rows ver, Obj.var [AVal.list false (n0 - 1).toNat fun (i : Nat) => encItem (its.getD (Int.toNat 1 + i) (ItemD.mk 0 [] 0)), AVal.own 3 0 rows.length ver false, AVal.int .i64 left, AVal.int .i64 size]] = [U0, U1, U2, Obj.arr 2 rows ver, Obj.var [AVal.list false (n0 - 1).toNat fun (i : Nat) => encItem (its.getD (Int.toNat 1 + i) (ItemD.mk 0 [] 0)), AVal.own 3 0 rows.length ver false, AVal.int .i64 left, AVal.int .i64 size]]) then bif (wdN (ItemD.mk n1 l3 n2)).bad.isSome then k (AExit.panic (fltS ((wdN (ItemD.mk n1 l3 n2)).bad.getD (0, 0)).fst ((wdN (ItemD.mk n1 l3 n2)).bad.getD (0, 0)).snd)) (stL 109 [0, 1, 4, 5, 6] [AVal.ptr (Oid.hp 4) 0, AVal.int .i64 deep, AVal.undef, AVal.ptr (Oid.tmp 5) 0, AVal.list true 0 fun (x : Nat) => []] [5] [[]] [U0, U1, U2, Obj.arr 2 rows ver, Obj.var [AVal.list false (n0 - 1).toNat fun (i : Nat) => encItem (its.getD (Int.toNat 1 + i) (ItemD.mk 0 [] 0)), AVal.own 3 0 rows.length ver false, AVal.int .i64 left, AVal.int .i64 size]] D) else bif tst (3 ≤ 1099511627776 ∧ SubL [AVal.list true 3 fun i => z3.getD i [], AVal.str (wdN (ItemD.mk n1 l3 n2)).v.head] [ssL true (decL decS (AVal.list true 3 fun i => z3.getD i [])), AVal.str (wdN (ItemD.mk n1 l3 n2)).v.head] ∧ ([] : Heap) = []) then bif bif (wdN (ItemD.mk n1 l3 n2)).v.head == [101, 110, 100] then true else c4 then bif !bif decide (deep > 0) then bif c4 then true else (↑m5 : Int) == 1 else false then k z5 (stL 109 [0, 1, 4, 5, 6] [AVal.ptr (Oid.hp 4) 0, AVal.int .i64 deep, AVal.undef, AVal.ptr (Oid.tmp 5) 0, AVal.list true 0 fun (x : Nat) => []] [5] [[]] [U0, U1, U2, Obj.arr 2 rows ver, Obj.var [AVal.list false (n0 - 1).toNat fun (i : Nat) => encItem (its.getD (Int.toNat 1 + i) (ItemD.mk 0 [] 0)), AVal.own 3 0 rows.length ver false, AVal.int .i64 left, AVal.int .i64 size]] D) else k AExit.ret (stL 109 [0, 1, 4, 5, 6] [AVal.ptr (Oid.hp 4) 0, AVal.int .i64 deep, AVal.list true 0 fun (x : Nat) => [], AVal.ptr (Oid.tmp 5) 0, AVal.list true 0 fun (x : Nat) => []] [5] [[AVal.list false m5 fun i => encWq (z0.v.words.getD i wd0), AVal.str (wdN (ItemD.mk n1 l3 n2)).v.head, AVal.int .i64 n6]] [U0, U1, U2, Obj.arr 2 rows ver, Obj.var [AVal.list false (n0 - 1).toNat fun (i : Nat) => encItem (its.getD (Int.toNat 1 + i) (ItemD.mk 0 [] 0)), AVal.own 3 0 rows.length ver false, AVal.int .i64 left, AVal.int .i64 size]] D) else bif (wdN (ItemD.mk n1 l3 n2)).v.head == [100, 101, 102, 105, 110, 101] then bif !deep == 0 then k z5 (stL 109 [0, 1, 4, 5, 6] [AVal.ptr (Oid.hp 4) 0, AVal.int .i64 deep, AVal.undef, AVal.ptr (Oid.tmp 5) 0, AVal.list true 0 fun (x : Nat) => []] [5] [[]] [U0, U1, U2, Obj.arr 2 rows ver, Obj.var [AVal.list false (n0 - 1).toNat fun (i : Nat) => encItem (its.getD (Int.toNat 1 + i) (ItemD.mk 0 [] 0)), AVal.own 3 0 rows.length ver false, AVal.int .i64 left, AVal.int .i64 size]] D) else bif tst (okD (SgA.mk (PsX.mk U0 U1 U2 (AVal.list false (n0 - 1).toNat fun (i : Nat) => encItem (its.getD (Int.toNat 1 + i) (ItemD.mk 0 [] 0))) rows ver left size) (List.drop 5 [U0, U1, U2, Obj.arr 2 rows ver, Obj.var [AVal.list false (n0 - 1).toNat fun (i : Nat) => encItem (its.getD (Int.toNat 1 + i) (ItemD.mk 0 [] 0)), AVal.own 3 0 rows.length ver false, AVal.int .i64 left, AVal.int .i64 size]]) (AVal.list false m5 fun i => encWq (z0.v.words.getD i wd0)) (wdN (ItemD.mk n1 l3 n2)).v.head n6) ∧ SubL [AVal.ptr (Oid.hp 4) 0, AVal.agg [AVal.list false m5 fun i => encWq (z0.v.words.getD i wd0), AVal.str (wdN (ItemD.mk n1 l3 n2)).v.head, AVal.int .i64 n6]] [AVal.ptr (Oid.hp 4) 0, AVal.agg [AVal.list false m5 fun i => encWq (z0.v.words.getD i wd0), AVal.str (wdN (ItemD.mk n1 l3 n2)).v.head, AVal.int .i64 n6]] ∧ [U0, U1, U2, Obj.arr 2 rows ver, Obj.var [AVal.list false (n0 - 1).toNat fun (i : Nat) => encItem (its.getD (Int.toNat 1 + i) (ItemD.mk 0 [] 0)), AVal.own 3 0 rows.length ver false, AVal.int .i64 left, AVal.int .i64 size]] = [U0, U1, U2, Obj.arr 2 rows ver, Obj.var [AVal.list false (n0 - 1).toNat fun (i : Nat) => encItem (its.getD (Int.toNat 1 + i) (ItemD.mk 0 [] 0)), AVal.own 3 0 rows.length ver false, AVal.int .i64 left, AVal.int .i64 size]]) then bif (dfN (AVal.list false m5 fun i => encWq (z0.v.words.getD i wd0)) (wdN (ItemD.mk n1 l3 n2)).v.head n6 (AVal.list false (n0 - 1).toNat fun (i : Nat) => encItem (its.getD (Int.toNat 1 + i) (ItemD.mk 0 [] 0))) rows ver left size).bad.isSome then k (AExit.panic (fltS ((dfN (AVal.list false m5 fun i => encWq (z0.v.words.getD i wd0)) (wdN (ItemD.mk n1 l3 n2)).v.head n6 (AVal.list false (n0 - 1).toNat fun (i : Nat) => encItem (its.getD (Int.toNat 1 + i) (ItemD.mk 0 [] 0))) rows ver left size).bad.getD (0, 0)).fst ((dfN (AVal.list false m5 fun i => encWq (z0.v.words.getD i wd0)) (wdN (ItemD.mk n1 l3 n2)).v.head n6 (AVal.list false (n0 - 1).toNat fun (i : Nat) => encItem (its.getD (Int.toNat 1 + i) (ItemD.mk 0 [] 0))) rows ver left size).bad.getD (0, 0)).snd)) (stL 109 [0, 1, 4, 5, 6] [AVal.ptr (Oid.hp 4) 0, AVal.int .i64 deep, AVal.undef, AVal.ptr (Oid.tmp 5) 0, AVal.list true 0 fun (x : Nat) => []] [5] [[]] (hpX (PsX.mk U0 U1 U2 (AVal.list false (n0 - 1).toNat fun (i : Nat) => encItem (its.getD (Int.toNat 1 + i) (ItemD.mk 0 [] 0))) rows ver left size) (List.drop 5 [U0, U1, U2, Obj.arr 2 rows ver, Obj.var [AVal.list false (n0 - 1).toNat fun (i : Nat) => encItem (its.getD (Int.toNat 1 + i) (ItemD.mk 0 [] 0)), AVal.own 3 0 rows.length ver false, AVal.int .i64 left, AVal.int .i64 size]]) (dfN (AVal.list false m5 fun i => encWq (z0.v.words.getD i wd0)) (wdN (ItemD.mk n1 l3 n2)).v.head n6 (AVal.list false (n0 - 1).toNat fun (i : Nat) => encItem (its.getD (Int.toNat 1 + i) (ItemD.mk 0 [] 0))) rows ver left size).s) D) else k AExit.normal (stL 109 [0, 1, 5, 6] [AVal.ptr (Oid.hp 4) 0, AVal.int .i64 deep, AVal.ptr (Oid.tmp 5) 0, AVal.list true 0 fun (x : Nat) => []] [5] [[AVal.list true 0 fun (x : Nat) => [], AVal.str [], AVal.int .i64 0]] (hpX (PsX.mk U0 U1 U2 (AVal.list false (n0 - 1).toNat fun (i : Nat) => encItem (its.getD (Int.toNat 1 + i) (ItemD.mk 0 [] 0))) rows ver left size) (List.drop 5 [U0, U1, U2, Obj.arr 2 rows ver, Obj.var [AVal.list false (n0 - 1).toNat fun (i : Nat) => encItem (its.getD (Int.toNat 1 + i) (ItemD.mk 0 [] 0)), AVal.own 3 0 rows.length ver false, AVal.int .i64 left, AVal.int .i64 size]]) (dfN (AVal.list false m5 fun i => encWq (z0.v.words.getD i wd0)) (wdN (ItemD.mk n1 l3 n2)).v.head n6 (AVal.list false (n0 - 1).toNat fun (i : Nat) => encItem (its.getD (Int.toNat 1 + i) (ItemD.mk 0 [] 0))) rows ver left size).s) D) else none else bif decide (n7 ≥ 0) then bif tst (okB (BkA.mk (PsX.mk U0 U1 U2 (AVal.list false (n0 - 1).toNat fun (i : Nat) => encItem (its.getD (Int.toNat 1 + i) (ItemD.mk 0 [] 0))) rows ver left size) (List.drop 5 [U0, U1, U2, Obj.arr 2 rows ver, Obj.var [AVal.list false (n0 - 1).toNat fun (i : Nat) => encItem (its.getD (Int.toNat 1 + i) (ItemD.mk 0 [] 0)), AVal.own 3 0 rows.length ver false, AVal.int .i64 left, AVal.int .i64 size]]) n8 (AVal.list false m5 fun i => encWq (z0.v.words.getD i wd0)) (wdN (ItemD.mk n1 l3 n2)).v.head n6 1 deep) ∧ SubL [AVal.ptr (Oid.hp 4) 0, AVal.int .i64 n8, AVal.agg [AVal.list false m5 fun i => encWq (z0.v.words.getD i wd0), AVal.str (wdN (ItemD.mk n1 l3 n2)).v.head, AVal.int .i64 n6], AVal.int .i64 1, AVal.int .i64 deep] [AVal.ptr (Oid.hp 4) 0, AVal.int .i64 n8, AVal.agg [AVal.list false m5 fun i => encWq (z0.v.words.getD i wd0), AVal.str (wdN (ItemD.mk n1 l3 n2)).v.head, AVal.int .i64 n6], AVal.int .i64 1, AVal.int .i64 deep] ∧ [U0, U1, U2, Obj.arr 2 rows ver, Obj.var [AVal.list false (n0 - 1).toNat fun (i : Nat) => encItem (its.getD (Int.toNat 1 + i) (ItemD.mk 0 [] 0)), AVal.own 3 0 rows.length ver false, AVal.int .i64 left, AVal.int .i64 size]] = [U0, U1, U2, Obj.arr 2 rows ver, Obj.var [AVal.list false (n0 - 1).toNat fun (i : Nat) => encItem (its.getD (Int.toNat 1 + i) (ItemD.mk 0 [] 0)), AVal.own 3 0 rows.length ver false, AVal.int .i64 left, AVal.int .i64 size]]) then bif (bkN n8 (AVal.list false m5 fun i => encWq (z0.v.words.getD i wd0)) (wdN (ItemD.mk n1 l3 n2)).v.head n6 1 deep (AVal.list false (n0 - 1).toNat fun (i : Nat) => encItem (its.getD (Int.toNat 1 + i) (ItemD.mk 0 [] 0))) rows ver left size).bad.isSome then k (AExit.panic (fltS ((bkN n8 (AVal.list false m5 fun i => encWq (z0.v.words.getD i wd0)) (wdN (ItemD.mk n1 l3 n2)).v.head n6 1 deep (AVal.list false (n0 - 1).toNat fun (i : Nat) => encItem (its.getD (Int.toNat 1 + i) (ItemD.mk 0 [] 0))) rows ver left size).bad.getD (0, 0)).fst ((bkN n8 (AVal.list false m5 fun i => encWq (z0.v.words.getD i wd0)) (wdN (ItemD.mk n1 l3 n2)).v.head n6 1 deep (AVal.list false (n0 - 1).toNat fun (i : Nat) => encItem (its.getD (Int.toNat 1 + i) (ItemD.mk 0 [] 0))) rows ver left size).bad.getD (0, 0)).snd)) (stL 109 [0, 1, 4, 5, 6] z2 [5] [[]] (hpX (PsX.mk U0 U1 U2 (AVal.list false (n0 - 1).toNat fun (i : Nat) => encItem (its.getD (Int.toNat 1 + i) (ItemD.mk 0 [] 0))) rows ver left size) (List.drop 5 [U0, U1, U2, Obj.arr 2 rows ver, Obj.var [AVal.list false (n0 - 1).toNat fun (i : Nat) => encItem (its.getD (Int.toNat 1 + i) (ItemD.mk 0 [] 0)), AVal.own 3 0 rows.length ver false, AVal.int .i64 left, AVal.int .i64 size]]) (bkN n8 (AVal.list false m5 fun i => encWq (z0.v.words.getD i wd0)) (wdN (ItemD.mk n1 l3 n2)).v.head n6 1 deep (AVal.list false (n0 - 1).toNat fun (i : Nat) => encItem (its.getD (Int.toNat 1 + i) (ItemD.mk 0 [] 0))) rows ver left size).s) D) else k AExit.normal (stL 109 [0, 1, 5, 6] z1 [5] [[AVal.list true 0 fun (x : Nat) => [], AVal.str [], AVal.int .i64 0]] [U0, U1, U2, Obj.arr 2 (List.map encDf (bkN n8 (AVal.list false m5 fun i => encWq (z0.v.words.getD i wd0)) (wdN (ItemD.mk n1 l3 n2)).v.head n6 1 deep (AVal.list false (n0 - 1).toNat fun (i : Nat) => encItem (its.getD (Int.toNat 1 + i) (ItemD.mk 0 [] 0))) rows ver left size).s.defs) m9, Obj.var [encIts (bkN n8 (AVal.list false m5 fun i => encWq (z0.v.words.getD i wd0)) (wdN (ItemD.mk n1 l3 n2)).v.head n6 1 deep (AVal.list false (n0 - 1).toNat fun (i : Nat) => encItem (its.getD (Int.toNat 1 + i) (ItemD.mk 0 [] 0))) rows ver left size).s.items, AVal.own 3 0 (List.map encDf (bkN n8 (AVal.list false m5 fun i => encWq (z0.v.words.getD i wd0)) (wdN (ItemD.mk n1 l3 n2)).v.head n6 1 deep (AVal.list false (n0 - 1).toNat fun (i : Nat) => encItem (its.getD (Int.toNat 1 + i) (ItemD.mk 0 [] 0))) rows ver left size).s.defs).length m9 false, AVal.int .i64 (bkN n8 (AVal.list false m5 fun i => encWq (z0.v.words.getD i wd0)) (wdN (ItemD.mk n1 l3 n2)).v.head n6 1 deep (AVal.list false (n0 - 1).toNat fun (i : Nat) => encItem (its.getD (Int.toNat 1 + i) (ItemD.mk 0 [] 0))) rows ver left size).s.left, AVal.int .i64 (bkN n8 (AVal.list false m5 fun i => encWq (z0.v.words.getD i wd0)) (wdN (ItemD.mk n1 l3 n2)).v.head n6 1 deep (AVal.list false (n0 - 1).toNat fun (i : Nat) => encItem (its.getD (Int.toNat 1 + i) (ItemD.mk 0 [] 0))) rows ver left size).s.size], Obj.arr 9 [[AVal.int .i64 (bkN n8 (AVal.list false m5 fun i => encWq (z0.v.words.getD i wd0)) (wdN (ItemD.mk n1 l3 n2)).v.head n6 1 deep (AVal.list false (n0 - 1).toNat fun (i : Nat) => encItem (its.getD (Int.toNat 1 + i) (ItemD.mk 0 [] 0))) rows ver left size).v.kind, AVal.str (bkN n8 (AVal.list false m5 fun i => encWq (z0.v.words.getD i wd0)) (wdN (ItemD.mk n1 l3 n2)).v.head n6 1 deep (AVal.list false (n0 - 1).toNat fun (i : Nat) => encItem (its.getD (Int.toNat 1 + i) (ItemD.mk 0 [] 0))) rows ver left size).v.text, AVal.str (bkN n8 (AVal.list false m5 fun i => encWq (z0.v.words.getD i wd0)) (wdN (ItemD.mk n1 l3 n2)).v.head n6 1 deep (AVal.list false (n0 - 1).toNat fun (i : Nat) => encItem (its.getD (Int.toNat 1 + i) (ItemD.mk 0 [] 0))) rows ver left size).v.name, AVal.list (bkN n8 (AVal.list false m5 fun i => encWq (z0.v.words.getD i wd0)) (wdN (ItemD.mk n1 l3 n2)).v.head n6 1 deep (AVal.list false (n0 - 1).toNat fun (i : Nat) => encItem (its.getD (Int.toNat 1 + i) (ItemD.mk 0 [] 0))) rows ver left size).v.pf (bkN n8 (AVal.list false m5 fun i => encWq (z0.v.words.getD i wd0)) (wdN (ItemD.mk n1 l3 n2)).v.head n6 1 deep (AVal.list false (n0 - 1).toNat fun (i : Nat) => encItem (its.getD (Int.toNat 1 + i) (ItemD.mk 0 [] 0))) rows ver left size).v.pn (bkN n8 (AVal.list false m5 fun i => encWq (z0.v.words.getD i wd0)) (wdN (ItemD.mk n1 l3 n2)).v.head n6 1 deep (AVal.list false (n0 - 1).toNat fun (i : Nat) => encItem (its.getD (Int.toNat 1 + i) (ItemD.mk 0 [] 0))) rows ver left size).v.pr, AVal.list (bkN n8 (AVal.list false m5 fun i => encWq (z0.v.words.getD i wd0)) (wdN (ItemD.mk n1 l3 n2)).v.head n6 1 deep (AVal.list false (n0 - 1).toNat fun (i : Nat) => encItem (its.getD (Int.toNat 1 + i) (ItemD.mk 0 [] 0))) rows ver left size).v.bf (bkN n8 (AVal.list false m5 fun i => encWq (z0.v.words.getD i wd0)) (wdN (ItemD.mk n1 l3 n2)).v.head n6 1 deep (AVal.list false (n0 - 1).toNat fun (i : Nat) => encItem (its.getD (Int.toNat 1 + i) (ItemD.mk 0 [] 0))) rows ver left size).v.bn (bkN n8 (AVal.list false m5 fun i => encWq (z0.v.words.getD i wd0)) (wdN (ItemD.mk n1 l3 n2)).v.head n6 1 deep (AVal.list false (n0 - 1).toNat fun (i : Nat) => encItem (its.getD (Int.toNat 1 + i) (ItemD.mk 0 [] 0))) rows ver left size).v.br, AVal.list (bkN n8 (AVal.list false m5 fun i => encWq (z0.v.words.getD i wd0)) (wdN (ItemD.mk n1 l3 n2)).v.head n6 1 deep (AVal.list false (n0 - 1).toNat fun (i : Nat) => encItem (its.getD (Int.toNat 1 + i) (ItemD.mk 0 [] 0))) rows ver left size).v.ef (bkN n8 (AVal.list false m5 fun i => encWq (z0.v.words.getD i wd0)) (wdN (ItemD.mk n1 l3 n2)).v.head n6 1 deep (AVal.list false (n0 - 1).toNat fun (i : Nat) => encItem (its.getD (Int.toNat 1 + i) (ItemD.mk 0 [] 0))) rows ver left size).v.en (bkN n8 (AVal.list false m5 fun i => encWq (z0.v.words.getD i wd0)) (wdN (ItemD.mk n1 l3 n2)).v.head n6 1 deep (AVal.list false (n0 - 1).toNat fun (i : Nat) => encItem (its.getD (Int.toNat 1 + i) (ItemD.mk 0 [] 0))) rows ver left size).v.er, AVal.int .i64 (bkN n8 (AVal.list false m5 fun i => encWq (z0.v.words.getD i wd0)) (wdN (ItemD.mk n1 l3 n2)).v.head n6 1 deep (AVal.list false (n0 - 1).toNat fun (i : Nat) => encItem (its.getD (Int.toNat 1 + i) (ItemD.mk 0 [] 0))) rows ver left size).v.at_, AVal.int .i64 (bkN n8 (AVal.list false m5 fun i => encWq (z0.v.words.getD i wd0)) (wdN (ItemD.mk n1 l3 n2)).v.head n6 1 deep (AVal.list false (n0 - 1).toNat fun (i : Nat) => encItem (its.getD (Int.toNat 1 + i) (ItemD.mk 0 [] 0))) rows ver left size).v.esc, AVal.int .i64 (bkN n8 (AVal.list false m5 fun i => encWq (z0.v.words.getD i wd0)) (wdN (ItemD.mk n1 l3 n2)).v.head n6 1 deep (AVal.list false (n0 - 1).toNat fun (i : Nat) => encItem (its.getD (Int.toNat 1 + i) (ItemD.mk 0 [] 0))) rows ver left size).v.unit]] 0] D) else none else bif tst (okS (SgA.mk (PsX.mk U0 U1 U2 (AVal.list false (n0 - 1).toNat fun (i : Nat) => encItem (its.getD (Int.toNat 1 + i) (ItemD.mk 0 [] 0))) rows ver left size) (List.drop 5 [U0, U1, U2, Obj.arr 2 rows ver, Obj.var [AVal.list false (n0 - 1).toNat fun (i : Nat) => encItem (its.getD (Int.toNat 1 + i) (ItemD.mk 0 [] 0)), AVal.own 3 0 rows.length ver false, AVal.int .i64 left, AVal.int .i64 size]]) (AVal.list false m5 fun i => encWq (z0.v.words.getD i wd0)) (wdN (ItemD.mk n1 l3 n2)).v.head n6) ∧ SubL [AVal.ptr (Oid.hp 4) 0, AVal.agg [AVal.list false m5 fun i => encWq (z0.v.words.getD i wd0), AVal.str (wdN (ItemD.mk n1 l3 n2)).v.head, AVal.int .i64 n6]] [AVal.ptr (Oid.hp 4) 0, AVal.agg [AVal.list false m5 fun i => encWq (z0.v.words.getD i wd0), AVal.str (wdN (ItemD.mk n1 l3 n2)).v.head, AVal.int .i64 n6]] ∧ [U0, U1, U2, Obj.arr 2 rows ver, Obj.var [AVal.list false (n0 - 1).toNat fun (i : Nat) => encItem (its.getD (Int.toNat 1 + i) (ItemD.mk 0 [] 0)), AVal.own 3 0 rows.length ver false, AVal.int .i64 left, AVal.int .i64 size]] = [U0, U1, U2, Obj.arr 2 rows ver, Obj.var [AVal.list false (n0 - 1).toNat fun (i : Nat) => encItem (its.getD (Int.toNat 1 + i) (ItemD.mk 0 [] 0)), AVal.own 3 0 rows.length ver false, AVal.int .i64 left, AVal.int .i64 size]]) then bif (sgN (AVal.list false m5 fun i => encWq (z0.v.words.getD i wd0)) (wdN (ItemD.mk n1 l3 n2)).v.head n6 (AVal.list false (n0 - 1).toNat fun (i : Nat) => encItem (its.getD (Int.toNat 1 + i) (ItemD.mk 0 [] 0))) rows ver left size).bad.isSome then k (AExit.panic (fltS ((sgN (AVal.list false m5 fun i => encWq (z0.v.words.getD i wd0)) (wdN (ItemD.mk n1 l3 n2)).v.head n6 (AVal.list false (n0 - 1).toNat fun (i : Nat) => encItem (its.getD (Int.toNat 1 + i) (ItemD.mk 0 [] 0))) rows ver left size).bad.getD (0, 0)).fst ((sgN (AVal.list false m5 fun i => encWq (z0.v.words.getD i wd0)) (wdN (ItemD.mk n1 l3 n2)).v.head n6 (AVal.list false (n0 - 1).toNat fun (i : Nat) => encItem (its.getD (Int.toNat 1 + i) (ItemD.mk 0 [] 0))) rows ver left size).bad.getD (0, 0)).snd)) (stL 109 [0, 1, 4, 5, 6] z2 [5] [[]] (hpX (PsX.mk U0 U1 U2 (AVal.list false (n0 - 1).toNat fun (i : Nat) => encItem (its.getD (Int.toNat 1 + i) (ItemD.mk 0 [] 0))) rows ver left size) (List.drop 5 [U0, U1, U2, Obj.arr 2 rows ver, Obj.var [AVal.list false (n0 - 1).toNat fun (i : Nat) => encItem (its.getD (Int.toNat 1 + i) (ItemD.mk 0 [] 0)), AVal.own 3 0 rows.length ver false, AVal.int .i64 left, AVal.int .i64 size]]) (sgN (AVal.list false m5 fun i => encWq (z0.v.words.getD i wd0)) (wdN (ItemD.mk n1 l3 n2)).v.head n6 (AVal.list false (n0 - 1).toNat fun (i : Nat) => encItem (its.getD (Int.toNat 1 + i) (ItemD.mk 0 [] 0))) rows ver left size).s) D) else k AExit.normal (stL 109 [0, 1, 5, 6] z1 [5] [[AVal.list true 0 fun (x : Nat) => [], AVal.str [], AVal.int .i64 0]] [U0, U1, U2, Obj.arr 2 (List.map encDf (sgN (AVal.list false m5 fun i => encWq (z0.v.words.getD i wd0)) (wdN (ItemD.mk n1 l3 n2)).v.head n6 (AVal.list false (n0 - 1).toNat fun (i : Nat) => encItem (its.getD (Int.toNat 1 + i) (ItemD.mk 0 [] 0))) rows ver left size).s.defs) m10, Obj.var [encIts (sgN (AVal.list false m5 fun i => encWq (z0.v.words.getD i wd0)) (wdN (ItemD.mk n1 l3 n2)).v.head n6 (AVal.list false (n0 - 1).toNat fun (i : Nat) => encItem (its.getD (Int.toNat 1 + i) (ItemD.mk 0 [] 0))) rows ver left size).s.items, AVal.own 3 0 (List.map encDf (sgN (AVal.list false m5 fun i => encWq (z0.v.words.getD i wd0)) (wdN (ItemD.mk n1 l3 n2)).v.head n6 (AVal.list false (n0 - 1).toNat fun (i : Nat) => encItem (its.getD (Int.toNat 1 + i) (ItemD.mk 0 [] 0))) rows ver left size).s.defs).length m10 false, AVal.int .i64 (sgN (AVal.list false m5 fun i => encWq (z0.v.words.getD i wd0)) (wdN (ItemD.mk n1 l3 n2)).v.head n6 (AVal.list false (n0 - 1).toNat fun (i : Nat) => encItem (its.getD (Int.toNat 1 + i) (ItemD.mk 0 [] 0))) rows ver left size).s.left, AVal.int .i64 (sgN (AVal.list false m5 fun i => encWq (z0.v.words.getD i wd0)) (wdN (ItemD.mk n1 l3 n2)).v.head n6 (AVal.list false (n0 - 1).toNat fun (i : Nat) => encItem (its.getD (Int.toNat 1 + i) (ItemD.mk 0 [] 0))) rows ver left size).s.size], Obj.arr 9 [[AVal.int .i64 (sgN (AVal.list false m5 fun i => encWq (z0.v.words.getD i wd0)) (wdN (ItemD.mk n1 l3 n2)).v.head n6 (AVal.list false (n0 - 1).toNat fun (i : Nat) => encItem (its.getD (Int.toNat 1 + i) (ItemD.mk 0 [] 0))) rows ver left size).v.kind, AVal.str (sgN (AVal.list false m5 fun i => encWq (z0.v.words.getD i wd0)) (wdN (ItemD.mk n1 l3 n2)).v.head n6 (AVal.list false (n0 - 1).toNat fun (i : Nat) => encItem (its.getD (Int.toNat 1 + i) (ItemD.mk 0 [] 0))) rows ver left size).v.text, AVal.str (sgN (AVal.list false m5 fun i => encWq (z0.v.words.getD i wd0)) (wdN (ItemD.mk n1 l3 n2)).v.head n6 (AVal.list false (n0 - 1).toNat fun (i : Nat) => encItem (its.getD (Int.toNat 1 + i) (ItemD.mk 0 [] 0))) rows ver left size).v.name, AVal.list (sgN (AVal.list false m5 fun i => encWq (z0.v.words.getD i wd0)) (wdN (ItemD.mk n1 l3 n2)).v.head n6 (AVal.list false (n0 - 1).toNat fun (i : Nat) => encItem (its.getD (Int.toNat 1 + i) (ItemD.mk 0 [] 0))) rows ver left size).v.pf (sgN (AVal.list false m5 fun i => encWq (z0.v.words.getD i wd0)) (wdN (ItemD.mk n1 l3 n2)).v.head n6 (AVal.list false (n0 - 1).toNat fun (i : Nat) => encItem (its.getD (Int.toNat 1 + i) (ItemD.mk 0 [] 0))) rows ver left size).v.pn (sgN (AVal.list false m5 fun i => encWq (z0.v.words.getD i wd0)) (wdN (ItemD.mk n1 l3 n2)).v.head n6 (AVal.list false (n0 - 1).toNat fun (i : Nat) => encItem (its.getD (Int.toNat 1 + i) (ItemD.mk 0 [] 0))) rows ver left size).v.pr, AVal.list (sgN (AVal.list false m5 fun i => encWq (z0.v.words.getD i wd0)) (wdN (ItemD.mk n1 l3 n2)).v.head n6 (AVal.list false (n0 - 1).toNat fun (i : Nat) => encItem (its.getD (Int.toNat 1 + i) (ItemD.mk 0 [] 0))) rows ver left size).v.bf (sgN (AVal.list false m5 fun i => encWq (z0.v.words.getD i wd0)) (wdN (ItemD.mk n1 l3 n2)).v.head n6 (AVal.list false (n0 - 1).toNat fun (i : Nat) => encItem (its.getD (Int.toNat 1 + i) (ItemD.mk 0 [] 0))) rows ver left size).v.bn (sgN (AVal.list false m5 fun i => encWq (z0.v.words.getD i wd0)) (wdN (ItemD.mk n1 l3 n2)).v.head n6 (AVal.list false (n0 - 1).toNat fun (i : Nat) => encItem (its.getD (Int.toNat 1 + i) (ItemD.mk 0 [] 0))) rows ver left size).v.br, AVal.list (sgN (AVal.list false m5 fun i => encWq (z0.v.words.getD i wd0)) (wdN (ItemD.mk n1 l3 n2)).v.head n6 (AVal.list false (n0 - 1).toNat fun (i : Nat) => encItem (its.getD (Int.toNat 1 + i) (ItemD.mk 0 [] 0))) rows ver left size).v.ef (sgN (AVal.list false m5 fun i => encWq (z0.v.words.getD i wd0)) (wdN (ItemD.mk n1 l3 n2)).v.head n6 (AVal.list false (n0 - 1).toNat fun (i : Nat) => encItem (its.getD (Int.toNat 1 + i) (ItemD.mk 0 [] 0))) rows ver left size).v.en (sgN (AVal.list false m5 fun i => encWq (z0.v.words.getD i wd0)) (wdN (ItemD.mk n1 l3 n2)).v.head n6 (AVal.list false (n0 - 1).toNat fun (i : Nat) => encItem (its.getD (Int.toNat 1 + i) (ItemD.mk 0 [] 0))) rows ver left size).v.er, AVal.int .i64 (sgN (AVal.list false m5 fun i => encWq (z0.v.words.getD i wd0)) (wdN (ItemD.mk n1 l3 n2)).v.head n6 (AVal.list false (n0 - 1).toNat fun (i : Nat) => encItem (its.getD (Int.toNat 1 + i) (ItemD.mk 0 [] 0))) rows ver left size).v.at_, AVal.int .i64 (sgN (AVal.list false m5 fun i => encWq (z0.v.words.getD i wd0)) (wdN (ItemD.mk n1 l3 n2)).v.head n6 (AVal.list false (n0 - 1).toNat fun (i : Nat) => encItem (its.getD (Int.toNat 1 + i) (ItemD.mk 0 [] 0))) rows ver left size).v.esc, AVal.int .i64 (sgN (AVal.list false m5 fun i => encWq (z0.v.words.getD i wd0)) (wdN (ItemD.mk n1 l3 n2)).v.head n6 (AVal.list false (n0 - 1).toNat fun (i : Nat) => encItem (its.getD (Int.toNat 1 + i) (ItemD.mk 0 [] 0))) rows ver left size).v.unit]] 0] D) else none else none else none else none else none else k (AExit.exit 0) (stL 109 [0, 1, 4, 5, 6] [AVal.ptr (Oid.hp 4) 0, AVal.int .i64 deep, AVal.undef, AVal.ptr (Oid.tmp 5) 0, AVal.list true 0 fun (x : Nat) => []] [5] [[AVal.list true 0 fun (x : Nat) => [], AVal.str [], AVal.int .i64 0]] (PsX.mk U0 U1 U2 (encIts its) rows ver left size).heap D)) := by kernel_rfl
theorem nd_step1 (okL : NdA → Prop) (okD okS : SgA → Prop) (okB : BkA → Prop) (U0 U1 U2 : Obj) (its : List ItemD) (rows : List Vs) (ver : Nat) (left size deep : Int) (nr : List Vs) (nv : Nat) (D : Dfs) (k : Kont) : lturn Tryz.prog (layN0 okD okS okB) (ndFH okL) 13 2 [0,1,5,6] [5] [0,1,4,5,6] [5] (stL 109 [0,1,5,6] [.ptr (.hp 4) 0, .int .i64 deep, .ptr (.tmp 5) 0, .own 5 0 nr.length nv false] [5] [pcZ] ((PsX.mk U0 U1 U2 (encIts its) rows ver left size).heap ++ [.arr 9 nr nv]) D) k = (
 let n0 : Int := (↑its.length : Int);
 let z5 := its.getD 0 (ItemD.mk 0 [] 0);
 let n1 : Int := z5.kind;
 let c2 : Bool := nv == nv;
 let n3 : Int := (↑nr.length : Int);
 let n4 : Int := IntKind.i64.wrap (n3 - 1);
 let c5 : Bool := c2 && decide (0 ≤ n4) && decide (n4 < n3);
 let c6 : Bool := decide (n4 ≥ 0);
 let c7 : Bool := !c6;
 let m8 : Nat := 0 + n4.toNat;
 let c9 : Bool := c2 && decide (m8 < nr.length) && true;
 let l10 : Oc := strOf ((nr.getD m8 []).getD 1 AVal.undef);
 let l11 : Oc := z5.text;
 let m12 : Nat := l11.length;
 let n13 : Int := z5.at_;
 let m14 : Nat := nr.length + 1;
 let c15 : Bool := c2 && nr.length == nr.length && decide ((2 * m14 + 1000) * 136 ≤ 281474976710656) && true;
 let m16 : Nat := nv + 1;
 let c17 : Bool := (wdN (ItemD.mk n1 l11 n13)).v.head == [101, 108, 115, 101];
 let m18 : Nat := (wdN (ItemD.mk n1 l11 n13)).v.words.length;
 let n19 : Int := (wdN (ItemD.mk n1 l11 n13)).v.at_;
 let z4 := [[AVal.str [105, 102]], [AVal.str [114, 97, 110, 103, 101]], [AVal.str [119, 105, 116, 104]]];
 let n20 : Int := idxS (decL decS (AVal.list true 3 fun i => z4.getD i [])) (wdN (ItemD.mk n1 l11 n13)).v.head;
 let n21 : Int := IntKind.i64.wrap (3 + n20);
 let z0 := wdN (ItemD.mk z5.kind z5.text z5.at_);
 let m22 : Nat := (bkN n21 (AVal.list false m18 fun i => encWq (z0.v.words.getD i wd0)) (wdN (ItemD.mk n1 l11 n13)).v.head n19 1 deep (AVal.list false (n0 - 1).toNat fun (i : Nat) => encItem (its.getD (Int.toNat 1 + i) (ItemD.mk 0 [] 0))) rows ver left size).s.ver;
 let m23 : Nat := (sgN (AVal.list false m18 fun i => encWq (z0.v.words.getD i wd0)) (wdN (ItemD.mk n1 l11 n13)).v.head n19 (AVal.list false (n0 - 1).toNat fun (i : Nat) => encItem (its.getD (Int.toNat 1 + i) (ItemD.mk 0 [] 0))) rows ver left size).s.ver;
 let z1 := [AVal.ptr (Oid.hp 4) 0, AVal.int .i64 deep, AVal.undef, AVal.ptr (Oid.tmp 5) 0, AVal.own 5 0 nr.length nv false];
 let z2 := [AVal.ptr (Oid.hp 4) 0, AVal.int .i64 deep, AVal.ptr (Oid.tmp 5) 0, AVal.own 5 0 m14 m16 false];
 let z3 := [AVal.ptr (Oid.hp 4) 0, AVal.int .i64 deep, AVal.undef, AVal.ptr (Oid.tmp 5) 0, AVal.undef];
 let z6 := [AVal.ptr (Oid.hp 4) 0, AVal.int .i64 deep, AVal.ptr (Oid.tmp 5) 0, AVal.own 5 0 nr.length nv false];
 let z7 := AExit.panic (AVal.iface 41 (AVal.agg [AVal.int .i64 n19, AVal.int .i64 33]));
 let z8 := (wdN (ItemD.mk n1 l11 n13)).bad.getD (0, 0);
  bif decide (n0 > 0) then bif decide (0 < n0) then bif decide (1 ≤ n0) && decide (n0 ≤ n0) then bif n1 == 1 then bif c5 || c7 then bif c2 || c7 then bif c9 && isInt IntKind.i64 ((nr.getD m8 []).getD 0 AVal.undef) || c7 then bif bif c6 then intOf ((nr.getD m8 []).getD 0 AVal.undef) == 1 else false then bif c5 then bif c2 then bif c9 && isStr ((nr.getD m8 []).getD 1 AVal.undef) then bif decide (l10.length + m12 ≤ 4611686018427387904) then bif c5 then bif c2 then bif c9 then k AExit.normal (stL 109 [0, 1, 5, 6] z6 [5] [[AVal.list true 0 fun (x : Nat) => [], AVal.str [], AVal.int .i64 0]] [U0, U1, U2, Obj.arr 2 rows ver, Obj.var [AVal.list false (n0 - 1).toNat fun (i : Nat) => encItem (its.getD (Int.toNat 1 + i) (ItemD.mk 0 [] 0)), AVal.own 3 0 rows.length ver false, AVal.int .i64 left, AVal.int .i64 size], Obj.arr 9 (nr.set m8 ((nr.getD m8 []).set 1 (AVal.str (l10.append l11)))) nv] D) else none else none else none else none else none else none else none else bif !decide (size < 1024) then k (AExit.panic (AVal.iface 41 (AVal.agg [AVal.int .i64 n13, AVal.int .i64 3]))) (stL 109 [0, 1, 4, 5, 6] z3 [5] [[]] [U0, U1, U2, Obj.arr 2 rows ver, Obj.var [AVal.list false (n0 - 1).toNat fun (i : Nat) => encItem (its.getD (Int.toNat 1 + i) (ItemD.mk 0 [] 0)), AVal.own 3 0 rows.length ver false, AVal.int .i64 left, AVal.int .i64 size], Obj.arr 9 nr nv] D) else bif c15 then k AExit.normal (stL 109 [0, 1, 5, 6] z2 [5] [[AVal.list true 0 fun (x : Nat) => [], AVal.str [], AVal.int .i64 0]] [U0, U1, U2, Obj.arr 2 rows ver, Obj.var [AVal.list false (n0 - 1).toNat fun (i : Nat) => encItem (its.getD (Int.toNat 1 + i) (ItemD.mk 0 [] 0)), AVal.own 3 0 rows.length ver false, AVal.int .i64 left, AVal.int .i64 (IntKind.i64.wrap (size + 1))], Obj.arr 9 (nr.append [[AVal.int .i64 1, AVal.str l11, AVal.str [], AVal.list true 0 fun (x : Nat) => [], AVal.list true 0 fun (x : Nat) => [], AVal.list true 0 fun (x : Nat) => [], AVal.int .i64 n13, AVal.int .i64 0, AVal.int .i64 0]]) m16] D) else none else none else none else none else bif tst ((m12 ≤ 16384 ∧ 0 ≤ n13 ∧ n13 ≤ 16384) ∧ SubL [AVal.ptr (Oid.hp 4) 0, AVal.agg [AVal.int .i64 n1, AVal.str l11, AVal.int .i64 n13]] [AVal.ptr (Oid.hp 4) 0, AVal.agg (encItem (ItemD.mk n1 l11 n13))] ∧ [U0, U1, U2, Obj.arr 2 rows ver, Obj.var [AVal.list false (n0 - 1).toNat fun (i : Nat) => encItem (its.getD (Int.toNat 1 + i) (ItemD.mk 0 [] 0)), AVal.own 3 0 rows.length ver false, AVal.int .i64 left, AVal.int .i64 size], Obj.arr 9 nr nv] = [U0, U1, U2, Obj.arr 2 rows ver, Obj.var [AVal.list false (n0 - 1).toNat fun (i : Nat) => encItem (its.getD (Int.toNat 1 + i) (ItemD.mk 0 [] 0)), AVal.own 3 0 rows.length ver false, AVal.int .i64 left, AVal.int .i64 size], Obj.arr 9 nr nv]) then bif (wdN (ItemD.mk n1 l11 n13)).bad.isSome then k (AExit.panic (fltS z8.fst z8.snd)) (stL 109 [0, 1, 4, 5, 6] z1 [5] [[]] [U0, U1, U2, Obj.arr 2 rows ver, Obj.var [AVal.list false (n0 - 1).toNat fun (i : Nat) => encItem (its.getD (Int.toNat 1 + i) (ItemD.mk 0 [] 0)), AVal.own 3 0 rows.length ver false, AVal.int .i64 left, AVal.int .i64 size], Obj.arr 9 nr nv] D) else bif tst (3 ≤ 1099511627776 ∧ SubL [AVal.list true 3 fun i => z4.getD i [], AVal.str (wdN (ItemD.mk n1 l11 n13)).v.head] [ssL true (decL decS (AVal.list true 3 fun i => z4.getD i [])), AVal.str (wdN (ItemD.mk n1 l11 n13)).v.head] ∧ ([] : Heap) = []) then bif bif (wdN (ItemD.mk n1 l11 n13)).v.head == [101, 110, 100] then true else c17 then bif !bif decide (deep > 0) then bif c17 then true else (↑m18 : Int) == 1 else false then k z7 (stL 109 [0, 1, 4, 5, 6] z1 [5] [[]] [U0, U1, U2, Obj.arr 2 rows ver, Obj.var [AVal.list false (n0 - 1).toNat fun (i : Nat) => encItem (its.getD (Int.toNat 1 + i) (ItemD.mk 0 [] 0)), AVal.own 3 0 rows.length ver false, AVal.int .i64 left, AVal.int .i64 size], Obj.arr 9 nr nv] D) else k AExit.ret (stL 109 [0, 1, 4, 5, 6] [AVal.ptr (Oid.hp 4) 0, AVal.int .i64 deep, AVal.own 5 0 nr.length nv false, AVal.ptr (Oid.tmp 5) 0, AVal.own 5 0 nr.length nv false] [5] [[AVal.list false m18 fun i => encWq (z0.v.words.getD i wd0), AVal.str (wdN (ItemD.mk n1 l11 n13)).v.head, AVal.int .i64 n19]] [U0, U1, U2, Obj.arr 2 rows ver, Obj.var [AVal.list false (n0 - 1).toNat fun (i : Nat) => encItem (its.getD (Int.toNat 1 + i) (ItemD.mk 0 [] 0)), AVal.own 3 0 rows.length ver false, AVal.int .i64 left, AVal.int .i64 size], Obj.arr 9 nr nv] D) else bif (wdN (ItemD.mk n1 l11 n13)).v.head == [100, 101, 102, 105, 110, 101] then bif !deep == 0 then k z7 (stL 109 [0, 1, 4, 5, 6] z1 [5] [[]] [U0, U1, U2, Obj.arr 2 rows ver, Obj.var [AVal.list false (n0 - 1).toNat fun (i : Nat) => encItem (its.getD (Int.toNat 1 + i) (ItemD.mk 0 [] 0)), AVal.own 3 0 rows.length ver false, AVal.int .i64 left, AVal.int .i64 size], Obj.arr 9 nr nv] D) else bif tst (okD (SgA.mk (PsX.mk U0 U1 U2 (AVal.list false (n0 - 1).toNat fun (i : Nat) => encItem (its.getD (Int.toNat 1 + i) (ItemD.mk 0 [] 0))) rows ver left size) (List.drop 5 [U0, U1, U2, Obj.arr 2 rows ver, Obj.var [AVal.list false (n0 - 1).toNat fun (i : Nat) => encItem (its.getD (Int.toNat 1 + i) (ItemD.mk 0 [] 0)), AVal.own 3 0 rows.length ver false, AVal.int .i64 left, AVal.int .i64 size], Obj.arr 9 nr nv]) (AVal.list false m18 fun i => encWq (z0.v.words.getD i wd0)) (wdN (ItemD.mk n1 l11 n13)).v.head n19) ∧ SubL [AVal.ptr (Oid.hp 4) 0, AVal.agg [AVal.list false m18 fun i => encWq (z0.v.words.getD i wd0), AVal.str (wdN (ItemD.mk n1 l11 n13)).v.head, AVal.int .i64 n19]] [AVal.ptr (Oid.hp 4) 0, AVal.agg [AVal.list false m18 fun i => encWq (z0.v.words.getD i wd0), AVal.str (wdN (ItemD.mk n1 l11 n13)).v.head, AVal.int .i64 n19]] ∧ [U0, U1, U2, Obj.arr 2 rows ver, Obj.var [AVal.list false (n0 - 1).toNat fun (i : Nat) => encItem (its.getD (Int.toNat 1 + i) (ItemD.mk 0 [] 0)), AVal.own 3 0 rows.length ver false, AVal.int .i64 left, AVal.int .i64 size], Obj.arr 9 nr nv] = [U0, U1, U2, Obj.arr 2 rows ver, Obj.var [AVal.list false (n0 - 1).toNat fun (i : Nat) => encItem (its.getD (Int.toNat 1 + i) (ItemD.mk 0 [] 0)), AVal.own 3 0 rows.length ver false, AVal.int .i64 left, AVal.int .i64 size], Obj.arr 9 nr nv]) then bif (dfN (AVal.list false m18 fun i => encWq (z0.v.words.getD i wd0)) (wdN (ItemD.mk n1 l11 n13)).v.head n19 (AVal.list false (n0 - 1).toNat fun (i : Nat) => encItem (its.getD (Int.toNat 1 + i) (ItemD.mk 0 [] 0))) rows ver left size).bad.isSome then k (AExit.panic (fltS ((dfN (AVal.list false m18 fun i => encWq (z0.v.words.getD i wd0)) (wdN (ItemD.mk n1 l11 n13)).v.head n19 (AVal.list false (n0 - 1).toNat fun (i : Nat) => encItem (its.getD (Int.toNat 1 + i) (ItemD.mk 0 [] 0))) rows ver left size).bad.getD (0, 0)).fst ((dfN (AVal.list false m18 fun i => encWq (z0.v.words.getD i wd0)) (wdN (ItemD.mk n1 l11 n13)).v.head n19 (AVal.list false (n0 - 1).toNat fun (i : Nat) => encItem (its.getD (Int.toNat 1 + i) (ItemD.mk 0 [] 0))) rows ver left size).bad.getD (0, 0)).snd)) (stL 109 [0, 1, 4, 5, 6] z1 [5] [[]] (hpX (PsX.mk U0 U1 U2 (AVal.list false (n0 - 1).toNat fun (i : Nat) => encItem (its.getD (Int.toNat 1 + i) (ItemD.mk 0 [] 0))) rows ver left size) (List.drop 5 [U0, U1, U2, Obj.arr 2 rows ver, Obj.var [AVal.list false (n0 - 1).toNat fun (i : Nat) => encItem (its.getD (Int.toNat 1 + i) (ItemD.mk 0 [] 0)), AVal.own 3 0 rows.length ver false, AVal.int .i64 left, AVal.int .i64 size], Obj.arr 9 nr nv]) (dfN (AVal.list false m18 fun i => encWq (z0.v.words.getD i wd0)) (wdN (ItemD.mk n1 l11 n13)).v.head n19 (AVal.list false (n0 - 1).toNat fun (i : Nat) => encItem (its.getD (Int.toNat 1 + i) (ItemD.mk 0 [] 0))) rows ver left size).s) D) else k AExit.normal (stL 109 [0, 1, 5, 6] z6 [5] [[AVal.list true 0 fun (x : Nat) => [], AVal.str [], AVal.int .i64 0]] (hpX (PsX.mk U0 U1 U2 (AVal.list false (n0 - 1).toNat fun (i : Nat) => encItem (its.getD (Int.toNat 1 + i) (ItemD.mk 0 [] 0))) rows ver left size) (List.drop 5 [U0, U1, U2, Obj.arr 2 rows ver, Obj.var [AVal.list false (n0 - 1).toNat fun (i : Nat) => encItem (its.getD (Int.toNat 1 + i) (ItemD.mk 0 [] 0)), AVal.own 3 0 rows.length ver false, AVal.int .i64 left, AVal.int .i64 size], Obj.arr 9 nr nv]) (dfN (AVal.list false m18 fun i => encWq (z0.v.words.getD i wd0)) (wdN (ItemD.mk n1 l11 n13)).v.head n19 (AVal.list false (n0 - 1).toNat fun (i : Nat) => encItem (its.getD (Int.toNat 1 + i) (ItemD.mk 0 [] 0))) rows ver left size).s) D) else none else bif decide (n20 ≥ 0) then bif tst (okB (BkA.mk (PsX.mk U0 U1 U2 (AVal.list false (n0 - 1).toNat fun (i : Nat) => encItem (its.getD (Int.toNat 1 + i) (ItemD.mk 0 [] 0))) rows ver left size) (List.drop 5 [U0, U1, U2, Obj.arr 2 rows ver, Obj.var [AVal.list false (n0 - 1).toNat fun (i : Nat) => encItem (its.getD (Int.toNat 1 + i) (ItemD.mk 0 [] 0)), AVal.own 3 0 rows.length ver false, AVal.int .i64 left, AVal.int .i64 size], Obj.arr 9 nr nv]) n21 (AVal.list false m18 fun i => encWq (z0.v.words.getD i wd0)) (wdN (ItemD.mk n1 l11 n13)).v.head n19 1 deep) ∧ SubL [AVal.ptr (Oid.hp 4) 0, AVal.int .i64 n21, AVal.agg [AVal.list false m18 fun i => encWq (z0.v.words.getD i wd0), AVal.str (wdN (ItemD.mk n1 l11 n13)).v.head, AVal.int .i64 n19], AVal.int .i64 1, AVal.int .i64 deep] [AVal.ptr (Oid.hp 4) 0, AVal.int .i64 n21, AVal.agg [AVal.list false m18 fun i => encWq (z0.v.words.getD i wd0), AVal.str (wdN (ItemD.mk n1 l11 n13)).v.head, AVal.int .i64 n19], AVal.int .i64 1, AVal.int .i64 deep] ∧ [U0, U1, U2, Obj.arr 2 rows ver, Obj.var [AVal.list false (n0 - 1).toNat fun (i : Nat) => encItem (its.getD (Int.toNat 1 + i) (ItemD.mk 0 [] 0)), AVal.own 3 0 rows.length ver false, AVal.int .i64 left, AVal.int .i64 size], Obj.arr 9 nr nv] = [U0, U1, U2, Obj.arr 2 rows ver, Obj.var [AVal.list false (n0 - 1).toNat fun (i : Nat) => encItem (its.getD (Int.toNat 1 + i) (ItemD.mk 0 [] 0)), AVal.own 3 0 rows.length ver false, AVal.int .i64 left, AVal.int .i64 size], Obj.arr 9 nr nv]) then bif (bkN n21 (AVal.list false m18 fun i => encWq (z0.v.words.getD i wd0)) (wdN (ItemD.mk n1 l11 n13)).v.head n19 1 deep (AVal.list false (n0 - 1).toNat fun (i : Nat) => encItem (its.getD (Int.toNat 1 + i) (ItemD.mk 0 [] 0))) rows ver left size).bad.isSome then k (AExit.panic (fltS ((bkN n21 (AVal.list false m18 fun i => encWq (z0.v.words.getD i wd0)) (wdN (ItemD.mk n1 l11 n13)).v.head n19 1 deep (AVal.list false (n0 - 1).toNat fun (i : Nat) => encItem (its.getD (Int.toNat 1 + i) (ItemD.mk 0 [] 0))) rows ver left size).bad.getD (0, 0)).fst ((bkN n21 (AVal.list false m18 fun i => encWq (z0.v.words.getD i wd0)) (wdN (ItemD.mk n1 l11 n13)).v.head n19 1 deep (AVal.list false (n0 - 1).toNat fun (i : Nat) => encItem (its.getD (Int.toNat 1 + i) (ItemD.mk 0 [] 0))) rows ver left size).bad.getD (0, 0)).snd)) (stL 109 [0, 1, 4, 5, 6] z3 [5] [[]] (hpX (PsX.mk U0 U1 U2 (AVal.list false (n0 - 1).toNat fun (i : Nat) => encItem (its.getD (Int.toNat 1 + i) (ItemD.mk 0 [] 0))) rows ver left size) (List.drop 5 [U0, U1, U2, Obj.arr 2 rows ver, Obj.var [AVal.list false (n0 - 1).toNat fun (i : Nat) => encItem (its.getD (Int.toNat 1 + i) (ItemD.mk 0 [] 0)), AVal.own 3 0 rows.length ver false, AVal.int .i64 left, AVal.int .i64 size], Obj.arr 9 nr nv]) (bkN n21 (AVal.list false m18 fun i => encWq (z0.v.words.getD i wd0)) (wdN (ItemD.mk n1 l11 n13)).v.head n19 1 deep (AVal.list false (n0 - 1).toNat fun (i : Nat) => encItem (its.getD (Int.toNat 1 + i) (ItemD.mk 0 [] 0))) rows ver left size).s) D) else bif c15 then k AExit.normal (stL 109 [0, 1, 5, 6] z2 [5] [[AVal.list true 0 fun (x : Nat) => [], AVal.str [], AVal.int .i64 0]] [U0, U1, U2, Obj.arr 2 (List.map encDf (bkN n21 (AVal.list false m18 fun i => encWq (z0.v.words.getD i wd0)) (wdN (ItemD.mk n1 l11 n13)).v.head n19 1 deep (AVal.list false (n0 - 1).toNat fun (i : Nat) => encItem (its.getD (Int.toNat 1 + i) (ItemD.mk 0 [] 0))) rows ver left size).s.defs) m22, Obj.var [encIts (bkN n21 (AVal.list false m18 fun i => encWq (z0.v.words.getD i wd0)) (wdN (ItemD.mk n1 l11 n13)).v.head n19 1 deep (AVal.list false (n0 - 1).toNat fun (i : Nat) => encItem (its.getD (Int.toNat 1 + i) (ItemD.mk 0 [] 0))) rows ver left size).s.items, AVal.own 3 0 (List.map encDf (bkN n21 (AVal.list false m18 fun i => encWq (z0.v.words.getD i wd0)) (wdN (ItemD.mk n1 l11 n13)).v.head n19 1 deep (AVal.list false (n0 - 1).toNat fun (i : Nat) => encItem (its.getD (Int.toNat 1 + i) (ItemD.mk 0 [] 0))) rows ver left size).s.defs).length m22 false, AVal.int .i64 (bkN n21 (AVal.list false m18 fun i => encWq (z0.v.words.getD i wd0)) (wdN (ItemD.mk n1 l11 n13)).v.head n19 1 deep (AVal.list false (n0 - 1).toNat fun (i : Nat) => encItem (its.getD (Int.toNat 1 + i) (ItemD.mk 0 [] 0))) rows ver left size).s.left, AVal.int .i64 (bkN n21 (AVal.list false m18 fun i => encWq (z0.v.words.getD i wd0)) (wdN (ItemD.mk n1 l11 n13)).v.head n19 1 deep (AVal.list false (n0 - 1).toNat fun (i : Nat) => encItem (its.getD (Int.toNat 1 + i) (ItemD.mk 0 [] 0))) rows ver left size).s.size], Obj.arr 9 (nr.append [[AVal.int .i64 (bkN n21 (AVal.list false m18 fun i => encWq (z0.v.words.getD i wd0)) (wdN (ItemD.mk n1 l11 n13)).v.head n19 1 deep (AVal.list false (n0 - 1).toNat fun (i : Nat) => encItem (its.getD (Int.toNat 1 + i) (ItemD.mk 0 [] 0))) rows ver left size).v.kind, AVal.str (bkN n21 (AVal.list false m18 fun i => encWq (z0.v.words.getD i wd0)) (wdN (ItemD.mk n1 l11 n13)).v.head n19 1 deep (AVal.list false (n0 - 1).toNat fun (i : Nat) => encItem (its.getD (Int.toNat 1 + i) (ItemD.mk 0 [] 0))) rows ver left size).v.text, AVal.str (bkN n21 (AVal.list false m18 fun i => encWq (z0.v.words.getD i wd0)) (wdN (ItemD.mk n1 l11 n13)).v.head n19 1 deep (AVal.list false (n0 - 1).toNat fun (i : Nat) => encItem (its.getD (Int.toNat 1 + i) (ItemD.mk 0 [] 0))) rows ver left size).v.name, AVal.list (bkN n21 (AVal.list false m18 fun i => encWq (z0.v.words.getD i wd0)) (wdN (ItemD.mk n1 l11 n13)).v.head n19 1 deep (AVal.list false (n0 - 1).toNat fun (i : Nat) => encItem (its.getD (Int.toNat 1 + i) (ItemD.mk 0 [] 0))) rows ver left size).v.pf (bkN n21 (AVal.list false m18 fun i => encWq (z0.v.words.getD i wd0)) (wdN (ItemD.mk n1 l11 n13)).v.head n19 1 deep (AVal.list false (n0 - 1).toNat fun (i : Nat) => encItem (its.getD (Int.toNat 1 + i) (ItemD.mk 0 [] 0))) rows ver left size).v.pn (bkN n21 (AVal.list false m18 fun i => encWq (z0.v.words.getD i wd0)) (wdN (ItemD.mk n1 l11 n13)).v.head n19 1 deep (AVal.list false (n0 - 1).toNat fun (i : Nat) => encItem (its.getD (Int.toNat 1 + i) (ItemD.mk 0 [] 0))) rows ver left size).v.pr, AVal.list (bkN n21 (AVal.list false m18 fun i => encWq (z0.v.words.getD i wd0)) (wdN (ItemD.mk n1 l11 n13)).v.head n19 1 deep (AVal.list false (n0 - 1).toNat fun (i : Nat) => encItem (its.getD (Int.toNat 1 + i) (ItemD.mk 0 [] 0))) rows ver left size).v.bf (bkN n21 (AVal.list false m18 fun i => encWq (z0.v.words.getD i wd0)) (wdN (ItemD.mk n1 l11 n13)).v.head n19 1 deep (AVal.list false (n0 - 1).toNat fun (i : Nat) => encItem (its.getD (Int.toNat 1 + i) (ItemD.mk 0 [] 0))) rows ver left size).v.bn (bkN n21 (AVal.list false m18 fun i => encWq (z0.v.words.getD i wd0)) (wdN (ItemD.mk n1 l11 n13)).v.head n19 1 deep (AVal.list false (n0 - 1).toNat fun (i : Nat) => encItem (its.getD (Int.toNat 1 + i) (ItemD.mk 0 [] 0))) rows ver left size).v.br, AVal.list (bkN n21 (AVal.list false m18 fun i => encWq (z0.v.words.getD i wd0)) (wdN (ItemD.mk n1 l11 n13)).v.head n19 1 deep (AVal.list false (n0 - 1).toNat fun (i : Nat) => encItem (its.getD (Int.toNat 1 + i) (ItemD.mk 0 [] 0))) rows ver left size).v.ef (bkN n21 (AVal.list false m18 fun i => encWq (z0.v.words.getD i wd0)) (wdN (ItemD.mk n1 l11 n13)).v.head n19 1 deep (AVal.list false (n0 - 1).toNat fun (i : Nat) => encItem (its.getD (Int.toNat 1 + i) (ItemD.mk 0 [] 0))) rows ver left size).v.en (bkN n21 (AVal.list false m18 fun i => encWq (z0.v.words.getD i wd0)) (wdN (ItemD.mk n1 l11 n13)).v.head n19 1 deep (AVal.list false (n0 - 1).toNat fun (i : Nat) => encItem (its.getD (Int.toNat 1 + i) (ItemD.mk 0 [] 0))) rows ver left size).v.er, AVal.int .i64 (bkN n21 (AVal.list false m18 fun i => encWq (z0.v.words.getD i wd0)) (wdN (ItemD.mk n1 l11 n13)).v.head n19 1 deep (AVal.list false (n0 - 1).toNat fun (i : Nat) => encItem (its.getD (Int.toNat 1 + i) (ItemD.mk 0 [] 0))) rows ver left size).v.at_, AVal.int .i64 (bkN n21 (AVal.list false m18 fun i => encWq (z0.v.words.getD i wd0)) (wdN (ItemD.mk n1 l11 n13)).v.head n19 1 deep (AVal.list false (n0 - 1).toNat fun (i : Nat) => encItem (its.getD (Int.toNat 1 + i) (ItemD.mk 0 [] 0))) rows ver left size).v.esc, AVal.int .i64 (bkN n21 (AVal.list false m18 fun i => encWq (z0.v.words.getD i wd0)) (wdN (ItemD.mk n1 l11 n13)).v.head n19 1 deep (AVal.list false (n0 - 1).toNat fun (i : Nat) => encItem (its.getD (Int.toNat 1 + i) (ItemD.mk 0 [] 0))) rows ver left size).v.unit]]) m16] D) else none else none else bif tst (okS (SgA.mk (PsX.mk U0 U1 U2 (AVal.list false (n0 - 1).toNat fun (i : Nat) => encItem (its.getD (Int.toNat 1 + i) (ItemD.mk 0 [] 0))) rows ver left size) (List.drop 5 [U0, U1, U2, Obj.arr 2 rows ver, Obj.var [AVal.list false (n0 - 1).toNat fun (i : Nat) => encItem (its.getD (Int.toNat 1 + i) (ItemD.mk 0 [] 0)), AVal.own 3 0 rows.length ver false, AVal.int .i64 left, AVal.int .i64 size], Obj.arr 9 nr nv]) (AVal.list false m18 fun i => encWq (z0.v.words.getD i wd0)) (wdN (ItemD.mk n1 l11 n13)).v.head n19) ∧ SubL [AVal.ptr (Oid.hp 4) 0, AVal.agg [AVal.list false m18 fun i => encWq (z0.v.words.getD i wd0), AVal.str (wdN (ItemD.mk n1 l11 n13)).v.head, AVal.int .i64 n19]] [AVal.ptr (Oid.hp 4) 0, AVal.agg [AVal.list false m18 fun i => encWq (z0.v.words.getD i wd0), AVal.str (wdN (ItemD.mk n1 l11 n13)).v.head, AVal.int .i64 n19]] ∧ [U0, U1, U2, Obj.arr 2 rows ver, Obj.var [AVal.list false (n0 - 1).toNat fun (i : Nat) => encItem (its.getD (Int.toNat 1 + i) (ItemD.mk 0 [] 0)), AVal.own 3 0 rows.length ver false, AVal.int .i64 left, AVal.int .i64 size], Obj.arr 9 nr nv] = [U0, U1, U2, Obj.arr 2 rows ver, Obj.var [AVal.list false (n0 - 1).toNat fun (i : Nat) => encItem (its.getD (Int.toNat 1 + i) (ItemD.mk 0 [] 0)), AVal.own 3 0 rows.length ver false, AVal.int .i64 left, AVal.int .i64 size], Obj.arr 9 nr nv]) then bif (sgN (AVal.list false m18 fun i => encWq (z0.v.words.getD i wd0)) (wdN (ItemD.mk n1 l11 n13)).v.head n19 (AVal.list false (n0 - 1).toNat fun (i : Nat) => encItem (its.getD (Int.toNat 1 + i) (ItemD.mk 0 [] 0))) rows ver left size).bad.isSome then k (AExit.panic (fltS ((sgN (AVal.list false m18 fun i => encWq (z0.v.words.getD i wd0)) (wdN (ItemD.mk n1 l11 n13)).v.head n19 (AVal.list false (n0 - 1).toNat fun (i : Nat) => encItem (its.getD (Int.toNat 1 + i) (ItemD.mk 0 [] 0))) rows ver left size).bad.getD (0, 0)).fst ((sgN (AVal.list false m18 fun i => encWq (z0.v.words.getD i wd0)) (wdN (ItemD.mk n1 l11 n13)).v.head n19 (AVal.list false (n0 - 1).toNat fun (i : Nat) => encItem (its.getD (Int.toNat 1 + i) (ItemD.mk 0 [] 0))) rows ver left size).bad.getD (0, 0)).snd)) (stL 109 [0, 1, 4, 5, 6] z3 [5] [[]] (hpX (PsX.mk U0 U1 U2 (AVal.list false (n0 - 1).toNat fun (i : Nat) => encItem (its.getD (Int.toNat 1 + i) (ItemD.mk 0 [] 0))) rows ver left size) (List.drop 5 [U0, U1, U2, Obj.arr 2 rows ver, Obj.var [AVal.list false (n0 - 1).toNat fun (i : Nat) => encItem (its.getD (Int.toNat 1 + i) (ItemD.mk 0 [] 0)), AVal.own 3 0 rows.length ver false, AVal.int .i64 left, AVal.int .i64 size], Obj.arr 9 nr nv]) (sgN (AVal.list false m18 fun i => encWq (z0.v.words.getD i wd0)) (wdN (ItemD.mk n1 l11 n13)).v.head n19 (AVal.list false (n0 - 1).toNat fun (i : Nat) => encItem (its.getD (Int.toNat 1 + i) (ItemD.mk 0 [] 0))) rows ver left size).s) D) else bif c15 then k AExit.normal (stL 109 [0, 1, 5, 6] z2 [5] [[AVal.list true 0 fun (x : Nat) => [], AVal.str [], AVal.int .i64 0]] [U0, U1, U2, Obj.arr 2 (List.map encDf (sgN (AVal.list false m18 fun i => encWq (z0.v.words.getD i wd0)) (wdN (ItemD.mk n1 l11 n13)).v.head n19 (AVal.list false (n0 - 1).toNat fun (i : Nat) => encItem (its.getD (Int.toNat 1 + i) (ItemD.mk 0 [] 0))) rows ver left size).s.defs) m23, Obj.var [encIts (sgN (AVal.list false m18 fun i => encWq (z0.v.words.getD i wd0)) (wdN (ItemD.mk n1 l11 n13)).v.head n19 (AVal.list false (n0 - 1).toNat fun (i : Nat) => encItem (its.getD (Int.toNat 1 + i) (ItemD.mk 0 [] 0))) rows ver left size).s.items, AVal.own 3 0 (List.map encDf (sgN (AVal.list false m18 fun i => encWq (z0.v.words.getD i wd0)) (wdN (ItemD.mk n1 l11 n13)).v.head n19 (AVal.list false (n0 - 1).toNat fun (i : Nat) => encItem (its.getD (Int.toNat 1 + i) (ItemD.mk 0 [] 0))) rows ver left size).s.defs).length m23 false, AVal.int .i64 (sgN (AVal.list false m18 fun i => encWq (z0.v.words.getD i wd0)) (wdN (ItemD.mk n1 l11 n13)).v.head n19 (AVal.list false (n0 - 1).toNat fun (i : Nat) => encItem (its.getD (Int.toNat 1 + i) (ItemD.mk 0 [] 0))) rows ver left size).s.left, AVal.int .i64 (sgN (AVal.list false m18 fun i => encWq (z0.v.words.getD i wd0)) (wdN (ItemD.mk n1 l11 n13)).v.head n19 (AVal.list false (n0 - 1).toNat fun (i : Nat) => encItem (its.getD (Int.toNat 1 + i) (ItemD.mk 0 [] 0))) rows ver left size).s.size], Obj.arr 9 (nr.append [[AVal.int .i64 (sgN (AVal.list false m18 fun i => encWq (z0.v.words.getD i wd0)) (wdN (ItemD.mk n1 l11 n13)).v.head n19 (AVal.list false (n0 - 1).toNat fun (i : Nat) => encItem (its.getD (Int.toNat 1 + i) (ItemD.mk 0 [] 0))) rows ver left size).v.kind, AVal.str (sgN (AVal.list false m18 fun i => encWq (z0.v.words.getD i wd0)) (wdN (ItemD.mk n1 l11 n13)).v.head n19 (AVal.list false (n0 - 1).toNat fun (i : Nat) => encItem (its.getD (Int.toNat 1 + i) (ItemD.mk 0 [] 0))) rows ver left size).v.text, AVal.str (sgN (AVal.list false m18 fun i => encWq (z0.v.words.getD i wd0)) (wdN (ItemD.mk n1 l11 n13)).v.head n19 (AVal.list false (n0 - 1).toNat fun (i : Nat) => encItem (its.getD (Int.toNat 1 + i) (ItemD.mk 0 [] 0))) rows ver left size).v.name, AVal.list (sgN (AVal.list false m18 fun i => encWq (z0.v.words.getD i wd0)) (wdN (ItemD.mk n1 l11 n13)).v.head n19 (AVal.list false (n0 - 1).toNat fun (i : Nat) => encItem (its.getD (Int.toNat 1 + i) (ItemD.mk 0 [] 0))) rows ver left size).v.pf (sgN (AVal.list false m18 fun i => encWq (z0.v.words.getD i wd0)) (wdN (ItemD.mk n1 l11 n13)).v.head n19 (AVal.list false (n0 - 1).toNat fun (i : Nat) => encItem (its.getD (Int.toNat 1 + i) (ItemD.mk 0 [] 0))) rows ver left size).v.pn (sgN (AVal.list false m18 fun i => encWq (z0.v.words.getD i wd0)) (wdN (ItemD.mk n1 l11 n13)).v.head n19 (AVal.list false (n0 - 1).toNat fun (i : Nat) => encItem (its.getD (Int.toNat 1 + i) (ItemD.mk 0 [] 0))) rows ver left size).v.pr, AVal.list (sgN (AVal.list false m18 fun i => encWq (z0.v.words.getD i wd0)) (wdN (ItemD.mk n1 l11 n13)).v.head n19 (AVal.list false (n0 - 1).toNat fun (i : Nat) => encItem (its.getD (Int.toNat 1 + i) (ItemD.mk 0 [] 0))) rows ver left size).v.bf (sgN (AVal.list false m18 fun i => encWq (z0.v.words.getD i wd0)) (wdN (ItemD.mk n1 l11 n13)).v.head n19 (AVal.list false (n0 - 1).toNat fun (i : Nat) => encItem (its.getD (Int.toNat 1 + i) (ItemD.mk 0 [] 0))) rows ver left size).v.bn (sgN (AVal.list false m18 fun i => encWq (z0.v.words.getD i wd0)) (wdN (ItemD.mk n1 l11 n13)).v.head n19 (AVal.list false (n0 - 1).toNat fun (i : Nat) => encItem (its.getD (Int.toNat 1 + i) (ItemD.mk 0 [] 0))) rows ver left size).v.br, AVal.list (sgN (AVal.list false m18 fun i => encWq (z0.v.words.getD i wd0)) (wdN (ItemD.mk n1 l11 n13)).v.head n19 (AVal.list false (n0 - 1).toNat fun (i : Nat) => encItem (its.getD (Int.toNat 1 + i) (ItemD.mk 0 [] 0))) rows ver left size).v.ef (sgN (AVal.list false m18 fun i => encWq (z0.v.words.getD i wd0)) (wdN (ItemD.mk n1 l11 n13)).v.head n19 (AVal.list false (n0 - 1).toNat fun (i : Nat) => encItem (its.getD (Int.toNat 1 + i) (ItemD.mk 0 [] 0))) rows ver left size).v.en (sgN (AVal.list false m18 fun i => encWq (z0.v.words.getD i wd0)) (wdN (ItemD.mk n1 l11 n13)).v.head n19 (AVal.list false (n0 - 1).toNat fun (i : Nat) => encItem (its.getD (Int.toNat 1 + i) (ItemD.mk 0 [] 0))) rows ver left size).v.er, AVal.int .i64 (sgN (AVal.list false m18 fun i => encWq (z0.v.words.getD i wd0)) (wdN (ItemD.mk n1 l11 n13)).v.head n19 (AVal.list false (n0 - 1).toNat fun (i : Nat) => encItem (its.getD (Int.toNat 1 + i) (ItemD.mk 0 [] 0))) rows ver left size).v.at_, AVal.int .i64 (sgN (AVal.list false m18 fun i => encWq (z0.v.words.getD i wd0)) (wdN (ItemD.mk n1 l11 n13)).v.head n19 (AVal.list false (n0 - 1).toNat fun (i : Nat) => encItem (its.getD (Int.toNat 1 + i) (ItemD.mk 0 [] 0))) rows ver left size).v.esc, AVal.int .i64 (sgN (AVal.list false m18 fun i => encWq (z0.v.words.getD i wd0)) (wdN (ItemD.mk n1 l11 n13)).v.head n19 (AVal.list false (n0 - 1).toNat fun (i : Nat) => encItem (its.getD (Int.toNat 1 + i) (ItemD.mk 0 [] 0))) rows ver left size).v.unit]]) m16] D) else none else none else none else none else none else none else k (AExit.exit 0) (stL 109 [0, 1, 4, 5, 6] z1 [5] [[AVal.list true 0 fun (x : Nat) => [], AVal.str [], AVal.int .i64 0]] [U0, U1, U2, Obj.arr 2 rows ver, Obj.var [encIts its, AVal.own 3 0 rows.length ver false, AVal.int .i64 left, AVal.int .i64 size], Obj.arr 9 nr nv] D)) := by kernel_rfl
noncomputable def layNl (okL : NdA → Prop) (okD okS : SgA → Prop) (okB : BkA → Prop) : Lay := (layN0 okD okS okB).addL 13 (ndFH okL)
theorem nd_fun (okL : NdA → Prop) (okD okS : SgA → Prop) (okB : BkA → Prop) (U0 U1 U2 : Obj) (it : AVal) (rows : List Vs) (ver : Nat) (left size deep : Int) (k : Out → Ans) : iFun Tryz.prog ((layNl okL okD okS okB).hd Tryz.prog) (layNl okL okD okS okB).fhs 0 13 [.ptr (.hp 4) 0, .int .i64 deep] (PsX.mk U0 U1 U2 it rows ver left size).heap k = (
 let z0 := ndL deep it rows ver left size;
 let c0 : Bool := z0.v.fst.isEmpty;
 let m1 : Nat := z0.v.fst.length - 1;
 let c2 : Bool := !deep == 0;
 let z1 := PsX.mk U0 U1 U2 it rows ver left size;
 let z2 := z0.v.snd.getD (PcD.mk [] [] 0);
 let z3 := hpX z1 [Obj.arr 9 (List.map encNd z0.v.fst) m1] z0.s;
 let z4 := AVal.iface 41 (AVal.agg [AVal.int .i64 z0.s.left, AVal.int .i64 8]);
 let z5 := fltS (z0.bad.getD (0, 0)).fst (z0.bad.getD (0, 0)).snd;
  bif tst (okL (NdA.mk z1 [] deep) ∧ SubTL [AVal.ptr (Oid.hp 4) 0, AVal.int .i64 deep, AVal.ptr (Oid.tmp 5) 0, AVal.list true 0 fun (x : Nat) => []] [AVal.ptr (Oid.hp 4) 0, AVal.int .i64 deep, AVal.ptr (Oid.tmp 5) 0, AVal.list true 0 fun (x : Nat) => []] ∧ [[AVal.list true 0 fun (x : Nat) => [], AVal.str [], AVal.int .i64 0]] = [pcZ] ∧ z1.heap = z1.heap) then bif z0.bad.isSome then bif c0 then k (Out.panic z5 (hpX z1 [] z0.s)) else k (Out.panic z5 z3) else bif z0.v.snd.isSome then bif c0 then k (Out.ret (AVal.tuple [AVal.list true 0 fun (x : Nat) => [], AVal.agg [AVal.list false z2.words.length fun i => encWq (z2.words.getD i wd0), AVal.str z2.head, AVal.int .i64 z2.at_]]) (hpX z1 [] z0.s)) else k (Out.ret (AVal.tuple [AVal.own 5 0 (List.map encNd z0.v.fst).length m1 false, AVal.agg [AVal.list false z2.words.length fun i => encWq (z2.words.getD i wd0), AVal.str z2.head, AVal.int .i64 z2.at_]]) z3) else bif c0 then bif c2 then k (Out.panic z4 (hpX z1 [] z0.s)) else k (Out.ret (AVal.tuple [AVal.list true 0 fun (x : Nat) => [], AVal.agg [AVal.list true 0 fun (x : Nat) => [], AVal.str [], AVal.int .i64 0]]) (hpX z1 [] z0.s)) else bif c2 then k (Out.panic z4 z3) else k (Out.ret (AVal.tuple [AVal.own 5 0 (List.map encNd z0.v.fst).length m1 false, AVal.agg [AVal.list true 0 fun (x : Nat) => [], AVal.str [], AVal.int .i64 0]]) z3) else none) := by kernel_rfl
end Go.Mu
namespace Go.Mu
open Go Go.Proofs
abbrev hp6 (a b c : Obj) (rows : List Vs) (ver : Nat) (e : Obj) (s : Nm) : Heap := [a, b, c, .arr 2 rows ver, e, .var [.str s]]
abbrev dfCl : AVal := .func 44 [.ptr (.hp 5) 0]
abbrev dfOw (rows : List Vs) (ver : Nat) : AVal := .own 3 0 rows.length ver false
theorem d1_fun (r : AVal) (b : AVal) (a0 a1 a2 : Obj) (rows : List Vs) (ver : Nat) (e : Obj) (s : Nm) (k : Out → Ans) : iFun Tryz.prog (Lay.nil.hd Tryz.prog) Lay.nil.fhs 0 44 [.agg [r, b], .ptr (.hp 5) 0] (hp6 a0 a1 a2 rows ver e s) k = (
 bif isStr r then k (Out.ret (AVal.bool (strOf r == s)) (hp6 a0 a1 a2 rows ver e s)) else none) := by kernel_rfl
noncomputable def d1Told : FSp := fun xs H k => match xs, H with
 | [.agg [r, b], .ptr (.hp 5) 0], [a0, a1, a2, .arr 2 rows ver, e, .var [.str s]] => bif isStr r then k (Out.ret (AVal.bool (strOf r == s)) (hp6 a0 a1 a2 rows ver e s)) else none
 | _, _ => none
theorem d1Told_ok (xs : Vs) (H : Heap) (k : Out → Ans) (out : Out) (ho : d1Told xs H k = some out) : ∃ o, CallOK Tryz.prog 44 xs H o ∧ k o = some out := by
 unfold d1Told at ho
 split at ho
 · rename_i r b a0 a1 a2 rows ver e s
   cases hr : isStr r with
   | false => rw [hr] at ho; simp at ho
   | true =>
    rw [hr] at ho
    exact ⟨_, Lay.nil_ok.call (fun k => (d1_fun r b a0 a1 a2 rows ver e s k).trans (by rw [hr]; rfl)), ho⟩
 · simp at ho
noncomputable def layIx1 : Lay := Lay.nil.addF 44 d1Told
theorem layIx1_ok : layIx1.OK Tryz.prog := Lay.nil_ok.addF d1Told_ok
theorem ix_step (rows : List Vs) (ver : Nat) (a b c e : Obj) (s : Nm) (i : Int) (D : Dfs) (k : Kont) : lturn Tryz.prog layIx1 { thaw := [44] } 63 2 [0,1,7,8] [] [4] [] (stL 19 [0,1,7,8] [dfOw rows ver, dfCl, .int .i64 rows.length, .int .i64 i] [] [] (hp6 a b c rows ver e s) D) k = (
 let n0 : Int := (↑rows.length : Int);
 let c1 : Bool := decide (i < n0);
 let c2 : Bool := ver == ver;
 let m3 : Nat := 0 + i.toNat;
  bif c1 then bif c2 && decide (0 ≤ i) && c1 then bif c2 && decide (m3 < rows.length) && true then bif isStr ((rows.getD m3 []).getD 0 AVal.undef) then bif strOf ((rows.getD m3 []).getD 0 AVal.undef) == s then k AExit.ret (stL 19 [4] [AVal.int .i64 i] [] [] (hp6 a b c rows ver e s) D) else k AExit.normal (stL 19 [0, 1, 7, 8] [AVal.own 3 0 rows.length ver false, AVal.func 44 [AVal.ptr (Oid.hp 5) 0], AVal.int .i64 n0, AVal.int .i64 (IntKind.i64.wrap (i + 1))] [] [] (hp6 a b c rows ver e s) D) else none else none else none else k (AExit.exit 0) (stL 19 [4] [AVal.undef] [] [] (hp6 a b c rows ver e s) D)) := by kernel_rfl
structure DxA where
 a : Obj
 b : Obj
 c : Obj
 rows : List Vs
 ver : Nat
 e : Obj
 s : Nm
def hd6 (H : Heap) : DxA := ⟨H.getD 0 (.var []), H.getD 1 (.var []), H.getD 2 (.var []), rowsO (H.getD 3 (.var [])), verO (H.getD 3 (.var [])), H.getD 4 (.var []), strOf ((cellsO (H.getD 5 (.var []))).getD 0 .undef)⟩
def DxA.heap (x : DxA) : Heap := hp6 x.a x.b x.c x.rows x.ver x.e x.s
def nmHas (s : Nm) (r : Vs) : Bool := strOf (r.getD 0 .undef) == s
def dxOk (x : DxA) : Prop := ∃ ds : List DfD, x.rows = ds.map encDf ∧ ds.length ≤ 1099511627776
def dxAny (x : DxA) : Bool := x.rows.any (nmHas x.s)
def dxIdx (x : DxA) : Nat := x.rows.findIdx (nmHas x.s)
noncomputable def dxSp : LSp := mkL (fun vs _ H => hd6 H) dxOk (fun x => [dfOw x.rows x.ver, dfCl, .int .i64 x.rows.length, .int .i64 0]) (fun _ => []) (fun x => x.heap)
 (fun x k => cond (dxAny x) (k .ret [.int .i64 (dxIdx x : Nat)] [] x.heap) (k (.exit 0) [.undef] [] x.heap))
noncomputable def dxFH : FH := { FH.of [(2, loopSpec 19 [0,1,7,8] [] [4] [] dxSp)] with thaw := [44] }
noncomputable abbrev dxTurn := lturn Tryz.prog layIx1 dxFH 63 2 [0,1,7,8] [] [4] []
theorem dxSp_ok : SpOK dxTurn 19 [0,1,7,8] [] [4] [] dxSp := mkL_ok fun x h => by
 obtain ⟨a, b, c, rows, ver, e, s⟩ := x
 obtain ⟨ds, hr, hl⟩ := h
 replace hr : rows = ds.map encDf := hr
 have hlen : rows.length ≤ 1099511627776 := by rw [hr, List.length_map]; exact hl
 have hstr : ∀ i, i < rows.length → isStr ((rows.getD i []).getD 0 AVal.undef) = true := fun i hi => by
  have hm : rows.getD i [] ∈ rows := by
   have e : rows.getD i [] = rows[i] := by simp only [gQ, List.getElem?_eq_getElem hi, Option.getD_some]
   rw [e]; exact List.getElem_mem hi
  generalize rows.getD i [] = r at hm ⊢
  rw [hr] at hm
  obtain ⟨d, _, rfl⟩ := List.mem_map.1 hm
  rfl
 have hstep : ∀ (i : Nat) D (k : Kont), i < rows.length → dxTurn (stL 19 [0,1,7,8] [dfOw rows ver, dfCl, .int .i64 rows.length, .int .i64 (i : Nat)] [] [] (hp6 a b c rows ver e s) D) k =
  cond (nmHas s (rows.getD i [])) (k .ret (stL 19 [4] [.int .i64 (i : Nat)] [] [] (hp6 a b c rows ver e s) D)) (k .normal (stL 19 [0,1,7,8] [dfOw rows ver, dfCl, .int .i64 rows.length, .int .i64 ((i + 1 : Nat) : Int)] [] [] (hp6 a b c rows ver e s) D)) := fun i D k hi => by
  refine (ix_step rows ver a b c e s i D k).trans ?_
  simp only [dT (show (i : Int) < (rows.length : Int) by omega), dT (show (0 : Int) ≤ (i : Int) by omega), Int.toNat_natCast, Nat.zero_add, dT hi, hstr i hi, beq_self_eq_true, Bool.and_self, cond_true, wrap_add1 (show i < 4611686018427387904 by omega)]
  rfl
 have hend : ∀ D (k : Kont), dxTurn (stL 19 [0,1,7,8] [dfOw rows ver, dfCl, .int .i64 rows.length, .int .i64 (rows.length : Nat)] [] [] (hp6 a b c rows ver e s) D) k = k (.exit 0) (stL 19 [4] [.undef] [] [] (hp6 a b c rows ver e s) D) := fun D k => by
  refine (ix_step rows ver a b c e s rows.length D k).trans ?_
  simp only [dF (show ¬ (rows.length : Int) < (rows.length : Int) by omega), cond_false]
 have hrun : ∀ D k, rounds dxTurn (rows.length + 1) (stL 19 [0,1,7,8] [dfOw rows ver, dfCl, .int .i64 rows.length, .int .i64 0] [] [] (hp6 a b c rows ver e s) D) k =
  cond (rows.any (nmHas s)) (k .ret (stL 19 [4] [.int .i64 (rows.findIdx (nmHas s) : Nat)] [] [] (hp6 a b c rows ver e s) D)) (k (.exit 0) (stL 19 [4] [.undef] [] [] (hp6 a b c rows ver e s) D)) := by
  intro D k
  have := search_find (turn := dxTurn) (S := fun i => stL 19 [0,1,7,8] [dfOw rows ver, dfCl, .int .i64 rows.length, .int .i64 (i : Nat)] [] [] (hp6 a b c rows ver e s) D) (hit := fun i => nmHas s (rows.getD i [])) (n := rows.length) (e0 := .exit 0) (e1 := .ret)
   (R0 := stL 19 [4] [.undef] [] [] (hp6 a b c rows ver e s) D) (R1 := fun i => stL 19 [4] [.int .i64 (i : Nat)] [] [] (hp6 a b c rows ver e s) D) (fun i k hi => hstep i D k hi) (fun k => hend D k) (by simp) (by simp) k
  rw [find_getD] at this
  refine Eq.trans this ?_
  cases rows.any (nmHas s) <;> rfl
 show ∃ e' vs bs H, (∀ k : AExit → Vs → List Vs → Heap → Ans, cond (rows.any (nmHas s)) (k .ret [.int .i64 (rows.findIdx (nmHas s) : Nat)] [] (hp6 a b c rows ver e s)) (k (.exit 0) [.undef] [] (hp6 a b c rows ver e s)) = k e' vs bs H) ∧ _
 cases ha : rows.any (nmHas s) with
 | true => exact ⟨_, _, _, _, fun k => rfl, ⟨_, fun D k => (hrun D k).trans (by rw [ha]; rfl)⟩⟩
 | false => exact ⟨_, _, _, _, fun k => rfl, ⟨_, fun D k => (hrun D k).trans (by rw [ha]; rfl)⟩⟩
noncomputable def layIx2 : Lay := layIx1.addL 63 dxFH
theorem layIx2_ok : layIx2.OK Tryz.prog := layIx1_ok.loop1 (id := 2) (by kernel_rfl) (by kernel_rfl) (by kernel_rfl) dxSp_ok
noncomputable def layDf (okN : NdA → Prop) : Lay := ((layIx2.addF 46 oNameTold).addF 13 (ndTold okN)).addL 24 { heap := [4], hoist := true, hoist2 := true }
theorem df_fun (okN : NdA → Prop) (U0 U1 U2 : Obj) (it : AVal) (rows : List Vs) (ver : Nat) (left size : Int) (w : PcD) (k : Out → Ans) : iFun Tryz.prog ((layDf okN).hd Tryz.prog) (layDf okN).fhs 0 24 [.ptr (.hp 4) 0, .agg (encPc w)] (PsX.mk U0 U1 U2 it rows ver left size).heap k = (
 let n0 : Int := (↑w.words.length : Int);
 let c1 : Bool := decide (1 < n0);
 let c2 : Bool := decide (n0 > 1);
 let l3 : Oc := (w.words.getD 1 wd0).text;
 let n4 : Int := (↑rows.length : Int);
 let m5 : Nat := rows.length + 1;
 let m6 : Nat := ver + 1;
 let m7 : Nat := (ndN 1 it (rows.append [[AVal.str l3, AVal.list true 0 fun (x : Nat) => []]]) m6 left size).s.ver;
 let c8 : Bool := m7 == m7;
 let m9 : Nat := (List.map encDf (ndN 1 it (rows.append [[AVal.str l3, AVal.list true 0 fun (x : Nat) => []]]) m6 left size).s.defs).length;
 let m10 : Nat := 0 + n4.toNat;
 let z0 := [it, AVal.own 3 0 rows.length ver false, AVal.int .i64 left, AVal.int .i64 size];
 let z1 := [it, AVal.own 3 0 m5 m6 false, AVal.int .i64 left, AVal.int .i64 size];
 let z2 := DxA.mk U0 U1 U2 rows ver (Obj.var z0) l3;
 let z3 := AVal.iface 41 (AVal.agg [AVal.int .i64 w.at_, AVal.int .i64 33]);
 let z4 := [U0, U1, U2, Obj.arr 2 rows ver, Obj.var z0, Obj.var [AVal.str l3]];
 let z5 := [AVal.ptr (Oid.hp 4) 0, AVal.int .i64 1];
  bif c1 || !c2 then bif !bif c2 then (w.words.getD 1 wd0).kind == 5 else false then k (Out.panic z3 (PsX.mk U0 U1 U2 it rows ver left size).heap) else bif c1 then bif !nameB l3 then k (Out.panic (AVal.iface 41 (AVal.agg [AVal.int .i64 w.at_, AVal.int .i64 31])) (PsX.mk U0 U1 U2 it rows ver left size).heap) else bif c1 then bif !n0 == 2 then k (Out.panic z3 z4) else bif tst (dxOk z2 ∧ SubTL [AVal.own 3 0 rows.length ver false, AVal.func 44 [AVal.ptr (Oid.hp 5) 0], AVal.int .i64 n4, AVal.int .i64 0] [dfOw rows ver, dfCl, AVal.int .i64 n4, AVal.int .i64 0] ∧ ([] : List Vs) = [] ∧ z4 = z2.heap) then bif dxAny z2 then k (Out.panic (AVal.iface 41 (AVal.agg [AVal.int .i64 w.at_, AVal.int .i64 6])) z2.heap) else bif ver == ver && rows.length == rows.length && decide ((2 * m5 + 1000) * 40 ≤ 281474976710656) && true then bif tst (okN (NdA.mk (PsX.mk U0 U1 U2 it (rows.append [[AVal.str l3, AVal.list true 0 fun (x : Nat) => []]]) m6 left size) (List.drop 5 [U0, U1, U2, Obj.arr 2 (rows.append [[AVal.str l3, AVal.list true 0 fun (x : Nat) => []]]) m6, Obj.var z1, Obj.var [AVal.str l3]]) 1) ∧ SubL z5 z5 ∧ [U0, U1, U2, Obj.arr 2 (rows.append [[AVal.str l3, AVal.list true 0 fun (x : Nat) => []]]) m6, Obj.var z1, Obj.var [AVal.str l3]] = [U0, U1, U2, Obj.arr 2 (rows.append [[AVal.str l3, AVal.list true 0 fun (x : Nat) => []]]) m6, Obj.var [it, AVal.own 3 0 (rows.append [[AVal.str l3, AVal.list true 0 fun (x : Nat) => []]]).length m6 false, AVal.int .i64 left, AVal.int .i64 size], Obj.var [AVal.str l3]]) then bif (ndN 1 it (rows.append [[AVal.str l3, AVal.list true 0 fun (x : Nat) => []]]) m6 left size).bad.isSome then k (Out.panic (fltS ((ndN 1 it (rows.append [[AVal.str l3, AVal.list true 0 fun (x : Nat) => []]]) m6 left size).bad.getD (0, 0)).fst ((ndN 1 it (rows.append [[AVal.str l3, AVal.list true 0 fun (x : Nat) => []]]) m6 left size).bad.getD (0, 0)).snd) (hpX (PsX.mk U0 U1 U2 it (rows.append [[AVal.str l3, AVal.list true 0 fun (x : Nat) => []]]) m6 left size) (List.drop 5 [U0, U1, U2, Obj.arr 2 (rows.append [[AVal.str l3, AVal.list true 0 fun (x : Nat) => []]]) m6, Obj.var z1, Obj.var [AVal.str l3]]) (ndN 1 it (rows.append [[AVal.str l3, AVal.list true 0 fun (x : Nat) => []]]) m6 left size).s)) else bif !(ndN 1 it (rows.append [[AVal.str l3, AVal.list true 0 fun (x : Nat) => []]]) m6 left size).v.snd.head == [101, 110, 100] then k (Out.panic (AVal.iface 41 (AVal.agg [AVal.int .i64 (ndN 1 it (rows.append [[AVal.str l3, AVal.list true 0 fun (x : Nat) => []]]) m6 left size).v.snd.at_, AVal.int .i64 33])) (hpX (PsX.mk U0 U1 U2 it (rows.append [[AVal.str l3, AVal.list true 0 fun (x : Nat) => []]]) m6 left size) (List.drop 5 [U0, U1, U2, Obj.arr 2 (rows.append [[AVal.str l3, AVal.list true 0 fun (x : Nat) => []]]) m6, Obj.var z1, Obj.var [AVal.str l3]]) (ndN 1 it (rows.append [[AVal.str l3, AVal.list true 0 fun (x : Nat) => []]]) m6 left size).s)) else bif c8 && true && decide (n4 < (↑m9 : Int)) then bif c8 then bif c8 && decide (m10 < m9) && true then k (Out.ret (AVal.tuple []) [U0, U1, U2, Obj.arr 2 ((List.map encDf (ndN 1 it (rows.append [[AVal.str l3, AVal.list true 0 fun (x : Nat) => []]]) m6 left size).s.defs).set m10 (((List.map encDf (ndN 1 it (rows.append [[AVal.str l3, AVal.list true 0 fun (x : Nat) => []]]) m6 left size).s.defs).getD m10 []).set 1 (AVal.list false (ndN 1 it (rows.append [[AVal.str l3, AVal.list true 0 fun (x : Nat) => []]]) m6 left size).v.fst.length fun (i : Nat) => encNd ((ndN 1 it (rows.append [[AVal.str (w.words.getD 1 wd0).text, AVal.list true 0 fun (x : Nat) => []]]) (ver + 1) left size).v.fst.getD i nd0)))) m7, Obj.var [encIts (ndN 1 it (rows.append [[AVal.str l3, AVal.list true 0 fun (x : Nat) => []]]) m6 left size).s.items, AVal.own 3 0 m9 m7 false, AVal.int .i64 (ndN 1 it (rows.append [[AVal.str l3, AVal.list true 0 fun (x : Nat) => []]]) m6 left size).s.left, AVal.int .i64 (ndN 1 it (rows.append [[AVal.str l3, AVal.list true 0 fun (x : Nat) => []]]) m6 left size).s.size], Obj.var [AVal.str l3]]) else none else none else none else none else none else none else none else none else none) := by kernel_rfl
end Go.Mu
