/-
  Lemmas on the given program (part 5).
-/
import Derived.Test.YtjaekcceagbefaaGreatDoorPW4
set_option linter.unusedVariables false
set_option linter.unusedSimpArgs false
set_option maxRecDepth 100000
set_option maxHeartbeats 2000000
namespace Go.Mu
open Go Go.Proofs
def orI (n : Int) : Int := IntKind.u8.wrap (BitVec.ofInt 8 n ||| BitVec.ofInt 8 32).toNat
def ltrI (n : Int) : Bool := decide (orI n ≥ 97) && decide (orI n ≤ 122)
def ltr (c : UInt8) : Bool := (decide (97 ≤ c.toNat) && decide (c.toNat ≤ 122)) || (decide (65 ≤ c.toNat) && decide (c.toNat ≤ 90))
theorem ltrI_eq (c : UInt8) : ltrI (c.toNat : Int) = ltr c := by
 have h : ∀ n : Fin 256, ltrI ((UInt8.ofNat n).toNat : Int) = ltr (UInt8.ofNat n) := by decide +kernel
 have := h ⟨c.toNat, c.toNat_lt⟩
 simpa using this
def dig (c : UInt8) : Bool := decide (48 ≤ c.toNat) && decide (c.toNat ≤ 57)
def nmC (c : UInt8) : Bool := ltr c || c == 95 || dig c
theorem letter_fun (n : Int) (k : Out → Ans) : iFun Tryz.prog (Lay.nil.hd Tryz.prog) Lay.nil.fhs 0 67 [.int .u8 n] [] k = (
 let n0 : Int := IntKind.u8.wrap (↑(BitVec.ofInt 8 n ||| BitVec.ofInt 8 32).toNat : Int);
  k (Out.ret (AVal.bool (bif decide (n0 ≥ 97) then decide (n0 ≤ 122) else false)) [])) := by kernel_rfl
def letTold : FSp := mkFS [.i .u8] (fun _ => true) (fun xs k => k (.ret (.bool (ltrI (aI xs 0))) []))
theorem letTold_ok : ∀ xs H k out, letTold xs H k = some out → ∃ o, CallOK Tryz.prog 67 xs H o ∧ k o = some out := mkFS_ok fun ys xs e h => by
 obtain ⟨n, rfl⟩ : ∃ n, xs = [.int .u8 n] := ⟨_, e⟩
 refine ⟨_, fun k => rfl, Lay.nil_ok.callF (G := []) rfl (fun k => ?_)⟩
 rw [letter_fun]
 simp only [ltrI, bif_and]
 rfl
theorem gec {c : UInt8} {n : Nat} : decide ((c.toNat : Int) ≥ no_index (@OfNat.ofNat Int n _)) = decide (n ≤ c.toNat) := by
 have e : (@OfNat.ofNat Int n _) = ((n : Nat) : Int) := rfl
 rw [e]; exact decide_eq_decide.2 (by omega)
theorem lec {c : UInt8} {n : Nat} : decide ((c.toNat : Int) ≤ no_index (@OfNat.ofNat Int n _)) = decide (c.toNat ≤ n) := by
 have e : (@OfNat.ofNat Int n _) = ((n : Nat) : Int) := rfl
 rw [e]; exact decide_eq_decide.2 (by omega)
theorem ltc {c : UInt8} {n : Nat} : decide ((c.toNat : Int) < no_index (@OfNat.ofNat Int n _)) = !decide (n ≤ c.toNat) := by
 have e : (@OfNat.ofNat Int n _) = ((n : Nat) : Int) := rfl
 rw [e, ← decide_not]; exact decide_eq_decide.2 (by omega)
theorem gtc {c : UInt8} {n : Nat} : decide ((c.toNat : Int) > no_index (@OfNat.ofNat Int n _)) = !decide (c.toNat ≤ n) := by
 have e : (@OfNat.ofNat Int n _) = ((n : Nat) : Int) := rfl
 rw [e, ← decide_not]; exact decide_eq_decide.2 (by omega)
theorem nmC_eq (c : UInt8) : (ltr c || c == 95 || (decide (48 ≤ c.toNat) && decide (c.toNat ≤ 57))) = nmC c := rfl
abbrev wsT : Nat := 116
abbrev wdT : Nat := 94
abbrev HwP (U0 U1 U2 : Obj) (s : Oc) (base a : Int) (o : AVal) (O : Obj) : Heap := [U0, U1, U2, .var [.str s, .int .i64 base, .int .i64 a, o], .note wsT 4, O, .note wdT 0]
structure WdH where
 U0 : Obj
 U1 : Obj
 U2 : Obj
 s : Oc
 base : Int
 a : Int
 o : AVal
 O : Obj
abbrev WdH.heap (x : WdH) : Heap := HwP x.U0 x.U1 x.U2 x.s x.base x.a x.o x.O
def WdH.dec (H : Heap) : WdH := ⟨H.getD 0 (.var []), H.getD 1 (.var []), H.getD 2 (.var []), strOf ((cs3 H).getD 0 .undef), intOf ((cs3 H).getD 1 .undef), intOf ((cs3 H).getD 2 .undef), (cs3 H).getD 3 .undef, H.getD 5 (.var [])⟩
def WdOk (x : WdH) : Prop := x.s.length ≤ 1073741824 ∧ 0 ≤ x.base ∧ x.base ≤ 1099511627776
abbrev flt (at_ e : Int) : AVal := .iface 53 (.agg [.int .i64 at_, .int .i64 e])
def runN (t : Oc) : Nat := (t.takeWhile nmC).length
noncomputable def runSp : LSp := mkL (fun vs _ H => (WdH.dec H, (aI vs 1).toNat)) (fun x => WdOk x.1 ∧ x.2 ≤ x.1.s.length) (fun x => [.ptr (.hp 3) 0, .int .i64 x.2]) (fun _ => []) (fun x => x.1.heap) (fun x k => k (.exit 0) [.int .i64 ((x.2 + runN (x.1.s.drop x.2) : Nat) : Int)] [] x.1.heap)
noncomputable def runFH : FH := .of [(1, loopSpec 51 [0,1] [] [1] [] runSp)]
noncomputable def layD1 : Lay := layX3.addF 67 letTold
theorem layD1_ok : layD1.OK Tryz.prog := layX3_ok.addF letTold_ok
theorem run_step (U0 U1 U2 : Obj) (s : Oc) (base a : Int) (o : AVal) (O : Obj) (i : Int) (D : Dfs) (k : Kont) : lturn Tryz.prog layD1 runFH 93 1 [0,1] [] [1] [] (stL 51 [0,1] [.ptr (.hp 3) 0, .int .i64 i] [] [] (HwP U0 U1 U2 s base a o O) D) k = (
 let c0 : Bool := decide (i < (↑s.length : Int));
 let c1 : Bool := decide (0 ≤ i) && c0;
 let n2 : Int := (↑(s.getD i.toNat 0).toNat : Int);
 let c3 : Bool := ltrI n2;
 let c4 : Bool := bif c3 then true else n2 == 95;
 let c5 : Bool := c0 && !c4;
 let c6 : Bool := decide (n2 ≥ 48);
  bif c1 || !c0 then bif c1 || !(c0 && !c3) then bif c1 || !c5 then bif c1 || !(c5 && c6) then bif bif c0 then bif c4 then true else bif c6 then decide (n2 ≤ 57) else false else false then k AExit.normal (stL 51 [0, 1] [AVal.ptr (Oid.hp 3) 0, AVal.int .i64 (IntKind.i64.wrap (i + 1))] [] [] (HwP U0 U1 U2 s base a o O) D) else k (AExit.exit 0) (stL 51 [1] [AVal.int .i64 i] [] [] (HwP U0 U1 U2 s base a o O) D) else none else none else none else none) := by kernel_rfl
theorem runN_cons (c : UInt8) (t : Oc) : runN (c :: t) = bif nmC c then runN t + 1 else 0 := by
 unfold runN
 rw [List.takeWhile_cons]
 cases nmC c <;> simp
theorem runN_le (t : Oc) : runN t ≤ t.length := by
 unfold runN
 exact (List.takeWhile_prefix nmC).length_le
theorem run_runs (x : WdH) (hx : WdOk x) : ∀ (m i : Nat), x.s.length - i ≤ m → i ≤ x.s.length → LoopRuns (lturn Tryz.prog layD1 runFH 93 1 [0,1] [] [1] []) 51 [0,1] [] [1] [] [.ptr (.hp 3) 0, .int .i64 i] [] x.heap (.exit 0) [.int .i64 ((i + runN (x.s.drop i) : Nat) : Int)] [] x.heap := by
 obtain ⟨U0, U1, U2, s, base, a, o, O⟩ := x
 obtain ⟨h1, h2, h3⟩ := hx
 simp only at h1 h2 h3 ⊢
 intro m
 induction m with
 | zero =>
  intro i hm hi
  have e : s.drop i = [] := List.drop_eq_nil_of_le (by omega)
  rw [e]
  refine .stop (by simp) (fun D k => ?_)
  rw [run_step]
  simp (disch := omega) only [dF, cond_false, Bool.and_false, Bool.false_and, Bool.not_false, Bool.or_true, cond_true]
  rfl
 | succ m ih =>
  intro i hm hi
  by_cases hlt : i < s.length
  · have key := fun D k => run_step U0 U1 U2 s base a o O i D k
    have e2 : (i : Int) + 1 = ((i + 1 : Nat) : Int) := by omega
    simp (disch := first | omega | decide) only [Int.toNat_natCast, dT, cond_true, Bool.true_and, Bool.true_or, Bool.and_true, Bool.and_self, eqc, gec, lec, ltrI_eq, bif_or, bif_and, nmC_eq, wrap_of, e2] at key
    have ih2 := ih (i + 1) (by omega) (by omega)
    rw [drop_cons_of s i 0 hlt, runN_cons]
    cases hc : nmC (s.getD i 0) with
    | true =>
     simp only [hc, cond_true] at key
     rw [show i + 1 + runN (s.drop (i + 1)) = i + (runN (s.drop (i + 1)) + 1) by omega] at ih2
     exact .step key ih2
    | false =>
     simp only [hc, cond_false] at key
     exact .stop (by simp) key
  · have e : s.drop i = [] := List.drop_eq_nil_of_le (by omega)
    rw [e]
    refine .stop (by simp) (fun D k => ?_)
    rw [run_step]
    simp (disch := omega) only [dF, cond_false, Bool.and_false, Bool.false_and, Bool.not_false, Bool.or_true, cond_true]
    rfl
theorem runSp_ok : SpOK (lturn Tryz.prog layD1 runFH 93 1 [0,1] [] [1] []) 51 [0,1] [] [1] [] runSp := mkL_ok fun a h => ⟨_, _, _, _, fun k => rfl, run_runs a.1 h.1 _ a.2 (Nat.le_refl _) h.2⟩
noncomputable def layD2 : Lay := layD1.addL 93 runFH
theorem layD2_ok : layD2.OK Tryz.prog := layD1_ok.loop1 (id := 1) (by kernel_rfl) (by kernel_rfl) (by kernel_rfl) runSp_ok
theorem run_fun (U0 U1 U2 : Obj) (s : Oc) (base a : Int) (o : AVal) (O : Obj) (i : Int) (k : Out → Ans) : iFun Tryz.prog (layD2.hd Tryz.prog) layD2.fhs 0 93 [.ptr (.hp 3) 0, .int .i64 i] (HwP U0 U1 U2 s base a o O) k = (
 bif
 tst
 ((WdOk (WdH.mk U0 U1 U2 s base a o O) ∧ i.toNat ≤ s.length) ∧
 SubTL [AVal.ptr (Oid.hp 3) 0, AVal.int .i64 i]
 [AVal.ptr (Oid.hp 3) 0, AVal.int .i64 (↑i.toNat : Int)] ∧
 ([] : List Vs) = [] ∧ HwP U0 U1 U2 s base a o O = (WdH.mk U0 U1 U2 s base a o O).heap) then
 k (Out.ret (AVal.int .i64 (↑(i.toNat + runN (List.drop i.toNat s)) : Int)) (WdH.mk U0 U1 U2 s base a o O).heap)
 else none) := by kernel_rfl
noncomputable def runTold : FSp := mkF (fun xs H => (WdH.dec H, (aI xs 1).toNat)) (fun x => WdOk x.1 ∧ x.2 ≤ x.1.s.length) (fun x => [.ptr (.hp 3) 0, .int .i64 x.2]) (fun x => x.1.heap) (fun x k => k (.ret (.int .i64 ((x.2 + runN (x.1.s.drop x.2) : Nat) : Int)) x.1.heap))
theorem runTold_ok : ∀ xs H k out, runTold xs H k = some out → ∃ o, CallOK Tryz.prog 93 xs H o ∧ k o = some out := mkF_ok fun x h => ⟨_, fun k => rfl, layD2_ok.call (fun k => by
 obtain ⟨⟨U0, U1, U2, s, base, a, o, O⟩, i⟩ := x
 show iFun _ _ _ 0 _ _ (HwP U0 U1 U2 s base a o O) k = _
 rw [run_fun]
 simp only [Int.toNat_natCast]
 refine (congrArg (fun c => cond c _ none) (tst_true ⟨h, .refl _, by trivial, by trivial⟩)).trans ?_
 rfl)⟩
noncomputable def layD3 : Lay := layD1.addF 93 runTold
theorem layD3_ok : layD3.OK Tryz.prog := layD1_ok.addF runTold_ok
theorem id_fun (U0 U1 U2 : Obj) (s : Oc) (base a : Int) (o : AVal) (O : Obj) (f at_ : Int) (k : Out → Ans) : iFun Tryz.prog (layD3.hd Tryz.prog) layD3.fhs 0 79 [.ptr (.hp 3) 0, .int .i64 f, .int .i64 at_] (HwP U0 U1 U2 s base a o O) k = (
 let c0 : Bool := decide (0 ≤ f) && decide (f < (↑s.length : Int));
 let n1 : Int := (↑(f.toNat + runN (List.drop f.toNat s)) : Int);
 let c2 : Bool := decide (n1 > f);
 let n3 : Int := (↑(s.getD f.toNat 0).toNat : Int);
 let c4 : Bool := decide (n3 < 48);
 let z0 := WdH.mk U0 U1 U2 s base a o O;
  bif tst ((WdOk z0 ∧ f.toNat ≤ s.length) ∧ SubL [AVal.ptr (Oid.hp 3) 0, AVal.int .i64 f] [AVal.ptr (Oid.hp 3) 0, AVal.int .i64 (↑f.toNat : Int)] ∧ HwP U0 U1 U2 s base a o O = z0.heap) then bif c0 || !c2 then bif c0 || !(c2 && !c4) then bif !bif c2 then bif c4 then true else decide (n3 > 57) else false then k (Out.panic (AVal.iface 53 (AVal.agg [AVal.int .i64 (IntKind.i64.wrap (base + at_)), AVal.int .i64 33])) z0.heap) else bif !decide (IntKind.i64.wrap (n1 - f) ≤ 32) then k (Out.panic (AVal.iface 53 (AVal.agg [AVal.int .i64 (IntKind.i64.wrap (base + at_)), AVal.int .i64 5])) z0.heap) else k (Out.ret (AVal.int .i64 n1) z0.heap) else none else none else none) := by kernel_rfl
def idE (t : Oc) : Int := bif !(decide (0 < runN t) && !dig (t.getD 0 0)) then 33 else bif !decide (runN t ≤ 32) then 5 else 0
noncomputable def idTold : FSp := mkF (fun xs H => (WdH.dec H, (aI xs 1).toNat, (aI xs 2).toNat)) (fun x => WdOk x.1 ∧ x.2.1 ≤ x.1.s.length ∧ x.2.2 ≤ x.1.s.length) (fun x => [.ptr (.hp 3) 0, .int .i64 x.2.1, .int .i64 x.2.2]) (fun x => x.1.heap)
 (fun x k => cond (idE (x.1.s.drop x.2.1) == 0) (k (.ret (.int .i64 ((x.2.1 + runN (x.1.s.drop x.2.1) : Nat) : Int)) x.1.heap)) (k (.panic (flt (x.1.base + x.2.2) (idE (x.1.s.drop x.2.1))) x.1.heap)))
theorem id_call (x : WdH) (f at_ : Nat) (hx : WdOk x) (hf : f ≤ x.s.length) (ha : at_ ≤ x.s.length) (k : Out → Ans) : iFun Tryz.prog (layD3.hd Tryz.prog) layD3.fhs 0 79 [.ptr (.hp 3) 0, .int .i64 f, .int .i64 at_] x.heap k =
 cond (idE (x.s.drop f) == 0) (k (.ret (.int .i64 ((f + runN (x.s.drop f) : Nat) : Int)) x.heap)) (k (.panic (flt (x.base + at_) (idE (x.s.drop f))) x.heap)) := by
 obtain ⟨U0, U1, U2, s, base, a, o, O⟩ := x
 have hx' := hx
 obtain ⟨h1, h2, h3⟩ := hx'
 simp only at h1 h2 h3 hf ha ⊢
 have hr := runN_le (s.drop f)
 rw [List.length_drop] at hr
 have key := id_fun U0 U1 U2 s base a o O f at_ k
 rw [key]
 clear key
 simp only [Int.toNat_natCast]
 refine (congrArg (fun c => cond c _ none) (tst_true ⟨⟨hx, hf⟩, .refl _, by trivial⟩)).trans ?_
 simp (disch := omega) only [cond_true, eqc, gtc, ltc, wrap_of]
 have hg : (s.drop f).getD 0 0 = s.getD f 0 := by rw [List.getD_drop]; rfl
 unfold idE
 rw [hg]
 generalize s.getD f 0 = c
 by_cases h0 : 0 < runN (s.drop f)
 · rw [dT (show ((f + runN (s.drop f) : Nat) : Int) > f by omega), dT h0]
   simp (disch := omega) only [dT, Bool.and_self, Bool.true_or, cond_true, Bool.true_and]
   have e : (bif !decide (48 ≤ c.toNat) then true else !decide (c.toNat ≤ 57)) = !dig c := by
    unfold dig
    cases decide (48 ≤ c.toNat) <;> cases decide (c.toNat ≤ 57) <;> rfl
   rw [e]
   cases dig c with
   | true => rfl
   | false =>
    simp only [Bool.not_false, Bool.not_true, cond_false]
    have e5 : decide (((f + runN (s.drop f) : Nat) : Int) - f ≤ 32) = decide (runN (s.drop f) ≤ 32) := decide_eq_decide.2 (by omega)
    rw [e5]
    cases decide (runN (s.drop f) ≤ 32) <;> rfl
 · rw [dF (show ¬ ((f + runN (s.drop f) : Nat) : Int) > f by omega), dF h0]
   simp only [Bool.not_false, Bool.or_true, cond_true, cond_false, Bool.false_and]
   rfl
theorem idTold_ok : ∀ xs H k out, idTold xs H k = some out → ∃ o, CallOK Tryz.prog 79 xs H o ∧ k o = some out := mkF_ok fun x h => by
 have key := fun k => id_call x.1 x.2.1 x.2.2 h.1 h.2.1 h.2.2 k
 show ∃ o, (∀ k : Out → Ans, cond (idE (x.1.s.drop x.2.1) == 0) _ _ = k o) ∧ _
 cases hb : idE (x.1.s.drop x.2.1) == 0 with
 | true => simp only [hb, cond_true] at key; exact ⟨_, fun k => rfl, layD3_ok.call key⟩
 | false => simp only [hb, cond_false] at key; exact ⟨_, fun k => rfl, layD3_ok.call key⟩
noncomputable def layD4 : Lay := (layX3.addF 67 letTold).addF 79 idTold
theorem layD4_ok : layD4.OK Tryz.prog := (layX3_ok.addF letTold_ok).addF idTold_ok
def dotsM : Nat → Oc → Int × Nat
 | 0, _ => (0, 0)
 | m + 1, t => bif decide (1 < t.length) && t.getD 0 0 == 46 then
  (bif idE (t.drop 1) == 0 then ((dotsM m (t.drop (1 + runN (t.drop 1)))).1, 1 + runN (t.drop 1) + (dotsM m (t.drop (1 + runN (t.drop 1)))).2) else (idE (t.drop 1), 0))
  else (0, 0)
noncomputable def dotsSp : LSp := mkL (fun vs _ H => (WdH.dec H, (aI vs 1).toNat, (aI vs 2).toNat)) (fun x => WdOk x.1 ∧ x.2.1 ≤ x.1.s.length ∧ x.2.2 ≤ x.1.s.length) (fun x => [.ptr (.hp 3) 0, .int .i64 x.2.1, .int .i64 x.2.2]) (fun _ => []) (fun x => x.1.heap)
 (fun x k => cond ((dotsM x.1.s.length (x.1.s.drop x.2.1)).1 == 0) (k (.exit 0) [.int .i64 ((x.2.1 + (dotsM x.1.s.length (x.1.s.drop x.2.1)).2 : Nat) : Int)] [] x.1.heap) (k (.panic (flt (x.1.base + x.2.2) (dotsM x.1.s.length (x.1.s.drop x.2.1)).1)) [.undef] [] x.1.heap))
noncomputable def dotsFH : FH := .of [(1, loopSpec 30 [0,1,2] [] [1] [] dotsSp)]
theorem dots_step (U0 U1 U2 : Obj) (s : Oc) (base a : Int) (o : AVal) (O : Obj) (i at_ : Int) (D : Dfs) (k : Kont) : lturn Tryz.prog layD4 dotsFH 94 1 [0,1,2] [] [1] [] (stL 30 [0,1,2] [.ptr (.hp 3) 0, .int .i64 i, .int .i64 at_] [] [] (HwP U0 U1 U2 s base a o O) D) k = (
 let n0 : Int := (↑s.length : Int);
 let n1 : Int := IntKind.i64.wrap (i + 1);
 let c2 : Bool := decide (n1 < n0);
 let m3 : Nat := n1.toNat;
 let n4 : Int := (↑at_.toNat : Int);
 let l5 : Oc := List.drop m3 s;
 let n6 : Int := idE l5;
 let z0 := WdH.mk U0 U1 U2 s base a o O;
  bif decide (0 ≤ i) && decide (i < n0) || !c2 then bif bif c2 then (↑(s.getD i.toNat 0).toNat : Int) == 46 else false then bif tst ((WdOk z0 ∧ m3 ≤ s.length ∧ at_.toNat ≤ s.length) ∧ SubL [AVal.ptr (Oid.hp 3) 0, AVal.int .i64 n1, AVal.int .i64 at_] [AVal.ptr (Oid.hp 3) 0, AVal.int .i64 (↑m3 : Int), AVal.int .i64 n4] ∧ HwP U0 U1 U2 s base a o O = z0.heap) then bif n6 == 0 then k AExit.normal (stL 30 [0, 1, 2] [AVal.ptr (Oid.hp 3) 0, AVal.int .i64 (↑(m3 + runN l5) : Int), AVal.int .i64 at_] [] [] z0.heap D) else k (AExit.panic (flt (base + n4) n6)) (stL 30 [1] [AVal.undef] [] [] z0.heap D) else none else k (AExit.exit 0) (stL 30 [1] [AVal.int .i64 i] [] [] (HwP U0 U1 U2 s base a o O) D) else none) := by kernel_rfl
theorem dotsM_fuel : ∀ (m n : Nat) (t : Oc), t.length ≤ m → t.length ≤ n → dotsM m t = dotsM n t
 | 0, 0, _, _, _ => rfl
 | 0, n + 1, t, h, _ => by
  have : t = [] := List.eq_nil_of_length_eq_zero (by omega)
  subst this; rfl
 | m + 1, 0, t, _, h => by
  have : t = [] := List.eq_nil_of_length_eq_zero (by omega)
  subst this; rfl
 | m + 1, n + 1, t, h1, h2 => by
  have hd : (t.drop (1 + runN (t.drop 1))).length = t.length - (1 + runN (t.drop 1)) := by simp
  by_cases h0 : t.length = 0
  · have : t = [] := List.eq_nil_of_length_eq_zero h0
    subst this; rfl
  · rw [dotsM, dotsM, dotsM_fuel m n _ (by omega) (by omega)]
theorem dotsM_le : ∀ (m : Nat) (t : Oc), (dotsM m t).2 ≤ t.length
 | 0, t => Nat.zero_le _
 | m + 1, t => by
  rw [dotsM]
  have := dotsM_le m (t.drop (1 + runN (t.drop 1)))
  have hr := runN_le (t.drop 1)
  rw [List.length_drop] at this hr
  cases hc : decide (1 < t.length) && t.getD 0 0 == 46 with
  | false => exact Nat.zero_le _
  | true =>
   rw [Bool.and_eq_true, decide_eq_true_eq] at hc
   cases idE (t.drop 1) == 0 with
   | false => exact Nat.zero_le _
   | true => simp only [cond_true]; omega
theorem dots_runs (x : WdH) (hx : WdOk x) (at_ : Nat) (ha : at_ ≤ x.s.length) : ∀ (m i : Nat), x.s.length - i ≤ m → i ≤ x.s.length →
 ((dotsM m (x.s.drop i)).1 = 0 → LoopRuns (lturn Tryz.prog layD4 dotsFH 94 1 [0,1,2] [] [1] []) 30 [0,1,2] [] [1] [] [.ptr (.hp 3) 0, .int .i64 i, .int .i64 at_] [] x.heap (.exit 0) [.int .i64 ((i + (dotsM m (x.s.drop i)).2 : Nat) : Int)] [] x.heap) ∧
 ((dotsM m (x.s.drop i)).1 ≠ 0 → LoopRuns (lturn Tryz.prog layD4 dotsFH 94 1 [0,1,2] [] [1] []) 30 [0,1,2] [] [1] [] [.ptr (.hp 3) 0, .int .i64 i, .int .i64 at_] [] x.heap (.panic (flt (x.base + at_) (dotsM m (x.s.drop i)).1)) [.undef] [] x.heap) := by
 have hx' := hx
 obtain ⟨U0, U1, U2, s, base, a, o, O⟩ := x
 obtain ⟨h1, h2, h3⟩ := hx'
 simp only at h1 h2 h3 ha ⊢
 intro m
 induction m with
 | zero =>
  intro i hm hi
  have e : s.drop i = [] := List.drop_eq_nil_of_le (by omega)
  rw [e]
  refine ⟨fun _ => .stop (by simp) (fun D k => ?_), fun h => absurd rfl h⟩
  rw [dots_step]
  simp (disch := omega) only [wrap_of]
  simp (disch := omega) only [dF, cond_false, Bool.and_false, Bool.false_and, Bool.not_false, Bool.or_true, cond_true]
  rfl
 | succ m ih =>
  intro i hm hi
  have key := fun D k => dots_step U0 U1 U2 s base a o O i at_ D k
  have e2 : (i : Int) + 1 = ((i + 1 : Nat) : Int) := by omega
  simp (disch := omega) only [wrap_of, e2, Int.toNat_natCast] at key
  have eg : (s.drop i).getD 0 0 = s.getD i 0 := by rw [List.getD_drop]; rfl
  have el : (s.drop i).length = s.length - i := by simp
  have ed : (s.drop i).drop 1 = s.drop (i + 1) := by rw [List.drop_drop]
  rw [dotsM, eg, el, ed]
  by_cases hlt : i + 1 < s.length
  · rw [dT (show 1 < s.length - i by omega), Bool.true_and]
    simp (disch := first | omega | decide) only [dT, cond_true, Bool.true_and, Bool.true_or, Bool.and_self, eqc] at key
    cases hc : s.getD i 0 == 46 with
    | false =>
     simp only [hc, cond_false] at key
     exact ⟨fun _ => .stop (by simp) key, fun h => absurd rfl h⟩
    | true =>
     simp only [hc, cond_true] at key
     have hr := runN_le (s.drop (i + 1))
     rw [List.length_drop] at hr
     have key2 := fun D k => (key D k).trans ((congrArg (fun c => cond c _ none) (tst_true ⟨⟨hx, show i + 1 ≤ s.length by omega, ha⟩, .refl _, by trivial⟩)).trans rfl)
     clear key
     have ih2 := ih (i + 1 + runN (s.drop (i + 1))) (by omega) (by omega)
     have edd : (s.drop i).drop (1 + runN (s.drop (i + 1))) = s.drop (i + 1 + runN (s.drop (i + 1))) := by rw [List.drop_drop]; congr 1; omega
     rw [edd]
     cases he : idE (s.drop (i + 1)) == 0 with
     | true =>
      simp only [he, cond_true] at key2 ⊢
      rw [show i + 1 + runN (s.drop (i + 1)) + (dotsM m (s.drop (i + 1 + runN (s.drop (i + 1))))).2 = i + (1 + runN (s.drop (i + 1)) + (dotsM m (s.drop (i + 1 + runN (s.drop (i + 1))))).2) by omega] at ih2
      exact ⟨fun h => .step key2 (ih2.1 h), fun h => .step key2 (ih2.2 h)⟩
     | false =>
      simp only [he, cond_false] at key2 ⊢
      refine ⟨fun h => absurd (show (idE (s.drop (i + 1)) == 0) = true from beq_iff_eq.2 h) (by rw [he]; decide), fun _ => .stop (by simp) key2⟩
  · rw [dF (show ¬ 1 < s.length - i by omega)]
    simp (disch := omega) only [dF, cond_false, Bool.and_false, Bool.false_and, Bool.not_false, Bool.or_true, cond_true] at key
    exact ⟨fun _ => .stop (by simp) key, fun h => absurd rfl h⟩
theorem dotsSp_ok : SpOK (lturn Tryz.prog layD4 dotsFH 94 1 [0,1,2] [] [1] []) 30 [0,1,2] [] [1] [] dotsSp := mkL_ok fun a h => by
 have key := dots_runs a.1 h.1 a.2.2 h.2.2 a.1.s.length a.2.1 (by omega) h.2.1
 show ∃ e vs bs H, (∀ k : AExit → Vs → List Vs → Heap → Ans, cond ((dotsM a.1.s.length (a.1.s.drop a.2.1)).1 == 0) _ _ = k e vs bs H) ∧ _
 cases hb : (dotsM a.1.s.length (a.1.s.drop a.2.1)).1 == 0 with
 | true => exact ⟨_, _, _, _, fun k => rfl, key.1 (by simpa using hb)⟩
 | false => exact ⟨_, _, _, _, fun k => rfl, key.2 (by simpa using hb)⟩
noncomputable def layD5 : Lay := layD4.addL 94 dotsFH
theorem layD5_ok : layD5.OK Tryz.prog := layD4_ok.loop1 (id := 1) (by kernel_rfl) (by kernel_rfl) (by kernel_rfl) dotsSp_ok
theorem dots_fun (U0 U1 U2 : Obj) (s : Oc) (base a : Int) (o : AVal) (O : Obj) (f at_ : Int) (k : Out → Ans) : iFun Tryz.prog (layD5.hd Tryz.prog) layD5.fhs 0 94 [.ptr (.hp 3) 0, .int .i64 f, .int .i64 at_] (HwP U0 U1 U2 s base a o O) k = (
 let n0 : Int := (↑at_.toNat : Int);
 let n1 : Int := (dotsM s.length (List.drop f.toNat s)).fst;
 let z0 := WdH.mk U0 U1 U2 s base a o O;
  bif tst ((WdOk z0 ∧ f.toNat ≤ s.length ∧ at_.toNat ≤ s.length) ∧ SubTL [AVal.ptr (Oid.hp 3) 0, AVal.int .i64 f, AVal.int .i64 at_] [AVal.ptr (Oid.hp 3) 0, AVal.int .i64 (↑f.toNat : Int), AVal.int .i64 n0] ∧ ([] : List Vs) = [] ∧ HwP U0 U1 U2 s base a o O = z0.heap) then bif n1 == 0 then k (Out.ret (AVal.int .i64 (↑(f.toNat + (dotsM s.length (List.drop f.toNat s)).snd) : Int)) z0.heap) else k (Out.panic (flt (base + n0) n1) z0.heap) else none) := by kernel_rfl
noncomputable def dotsTold : FSp := mkF (fun xs H => (WdH.dec H, (aI xs 1).toNat, (aI xs 2).toNat)) (fun x => WdOk x.1 ∧ x.2.1 ≤ x.1.s.length ∧ x.2.2 ≤ x.1.s.length) (fun x => [.ptr (.hp 3) 0, .int .i64 x.2.1, .int .i64 x.2.2]) (fun x => x.1.heap)
 (fun x k => cond ((dotsM x.1.s.length (x.1.s.drop x.2.1)).1 == 0) (k (.ret (.int .i64 ((x.2.1 + (dotsM x.1.s.length (x.1.s.drop x.2.1)).2 : Nat) : Int)) x.1.heap)) (k (.panic (flt (x.1.base + x.2.2) (dotsM x.1.s.length (x.1.s.drop x.2.1)).1) x.1.heap)))
theorem dotsTold_ok : ∀ xs H k out, dotsTold xs H k = some out → ∃ o, CallOK Tryz.prog 94 xs H o ∧ k o = some out := mkF_ok fun x h => by
 obtain ⟨⟨U0, U1, U2, s, base, a, o, O⟩, f, at_⟩ := x
 have key := fun k => dots_fun U0 U1 U2 s base a o O f at_ k
 simp only [Int.toNat_natCast] at key
 replace key := fun k => (key k).trans ((congrArg (fun c => cond c _ none) (tst_true ⟨h, .refl _, by trivial, by trivial⟩)).trans rfl)
 show ∃ o, (∀ k : Out → Ans, cond ((dotsM s.length (s.drop f)).1 == 0) _ _ = k o) ∧ _
 cases hb : (dotsM s.length (s.drop f)).1 == 0 with
 | true => simp only [hb, cond_true] at key; exact ⟨_, fun k => rfl, layD5_ok.call key⟩
 | false => simp only [hb, cond_false, cond_true] at key; exact ⟨_, fun k => rfl, layD5_ok.call key⟩
noncomputable def layD6 : Lay := layD4.addF 94 dotsTold
theorem layD6_ok : layD6.OK Tryz.prog := layD4_ok.addF dotsTold_ok
theorem dot_fun (U0 U1 U2 : Obj) (s : Oc) (base a : Int) (o : AVal) (O : Obj) (at_ : Int) (k : Out → Ans) : iFun Tryz.prog (layD6.hd Tryz.prog) layD6.fhs 0 80 [.ptr (.hp 3) 0, .int .i64 at_] (HwP U0 U1 U2 s base a o O) k = (
 let n0 : Int := IntKind.i64.wrap (at_ + 1);
 let c1 : Bool := decide (n0 < (↑s.length : Int));
 let c2 : Bool := decide (0 ≤ n0) && c1;
 let n3 : Int := (↑(s.getD n0.toNat 0).toNat : Int);
 let c4 : Bool := ltrI n3;
 let n5 : Int := (↑at_.toNat : Int);
 let n6 : Int := (dotsM s.length (List.drop at_.toNat s)).fst;
 let z0 := WdH.mk U0 U1 U2 s base a o O;
  bif c2 || !c1 then bif c2 || !(c1 && !c4) then bif bif c1 then bif c4 then true else n3 == 95 else false then bif tst ((WdOk z0 ∧ at_.toNat ≤ s.length ∧ at_.toNat ≤ s.length) ∧ SubL [AVal.ptr (Oid.hp 3) 0, AVal.int .i64 at_, AVal.int .i64 at_] [AVal.ptr (Oid.hp 3) 0, AVal.int .i64 n5, AVal.int .i64 n5] ∧ HwP U0 U1 U2 s base a o O = z0.heap) then bif n6 == 0 then k (Out.ret (AVal.int .i64 (↑(at_.toNat + (dotsM s.length (List.drop at_.toNat s)).snd) : Int)) z0.heap) else k (Out.panic (flt (base + n5) n6) z0.heap) else none else k (Out.ret (AVal.int .i64 n0) (HwP U0 U1 U2 s base a o O)) else none else none) := by kernel_rfl
theorem dollar_fun (U0 U1 U2 : Obj) (s : Oc) (base a : Int) (o : AVal) (O : Obj) (at_ : Int) (k : Out → Ans) : iFun Tryz.prog (layD6.hd Tryz.prog) layD6.fhs 0 81 [.ptr (.hp 3) 0, .int .i64 at_] (HwP U0 U1 U2 s base a o O) k = (
 let n0 : Int := IntKind.i64.wrap (at_ + 1);
 let c1 : Bool := decide (n0 < (↑s.length : Int));
 let c2 : Bool := decide (0 ≤ n0) && c1;
 let m3 : Nat := n0.toNat;
 let n4 : Int := (↑(s.getD m3 0).toNat : Int);
 let c5 : Bool := ltrI n4;
 let n6 : Int := (↑at_.toNat : Int);
 let z0 := WdH.mk U0 U1 U2 s base a o O;
 let c7 : Bool := tst ((WdOk z0 ∧ m3 ≤ s.length ∧ at_.toNat ≤ s.length) ∧ SubL [AVal.ptr (Oid.hp 3) 0, AVal.int .i64 n0, AVal.int .i64 at_] [AVal.ptr (Oid.hp 3) 0, AVal.int .i64 (↑m3 : Int), AVal.int .i64 n6] ∧ HwP U0 U1 U2 s base a o O = z0.heap);
 let l8 : Oc := List.drop m3 s;
 let n9 : Int := idE l8;
 let n10 : Int := (↑(m3 + runN l8) : Int);
 let m11 : Nat := n10.toNat;
 let n12 : Int := (dotsM s.length (List.drop m11 s)).fst;
 let n13 : Int := base + n6;
 let n14 : Int := (dotsM s.length l8).fst;
  bif c2 || !c1 then bif c2 || !(c1 && !c5) then bif bif c1 then bif c5 then true else n4 == 95 else false then bif c7 then bif n9 == 0 then bif tst ((WdOk z0 ∧ m11 ≤ s.length ∧ at_.toNat ≤ s.length) ∧ SubL [AVal.ptr (Oid.hp 3) 0, AVal.int .i64 n10, AVal.int .i64 at_] [AVal.ptr (Oid.hp 3) 0, AVal.int .i64 (↑m11 : Int), AVal.int .i64 n6] ∧ z0.heap = z0.heap) then bif n12 == 0 then k (Out.ret (AVal.int .i64 (↑(m11 + (dotsM s.length (List.drop m11 s)).snd) : Int)) z0.heap) else k (Out.panic (flt n13 n12) z0.heap) else none else k (Out.panic (flt n13 n9) z0.heap) else none else bif c7 then bif n14 == 0 then k (Out.ret (AVal.int .i64 (↑(m3 + (dotsM s.length l8).snd) : Int)) z0.heap) else k (Out.panic (flt n13 n14) z0.heap) else none else none else none) := by kernel_rfl
def hd1 (t : Oc) : Bool := decide (1 < t.length) && (ltr (t.getD 1 0) || t.getD 1 0 == 95)
def dotM (t : Oc) : Int × Nat := bif hd1 t then dotsM t.length t else (0, 1)
def dollarM (t : Oc) : Int × Nat :=
 bif hd1 t then (bif idE (t.drop 1) == 0 then ((dotsM t.length (t.drop (1 + runN (t.drop 1)))).1, 1 + runN (t.drop 1) + (dotsM t.length (t.drop (1 + runN (t.drop 1)))).2) else (idE (t.drop 1), 0))
 else ((dotsM t.length (t.drop 1)).1, 1 + (dotsM t.length (t.drop 1)).2)
noncomputable def cutTold' (M : Oc → Int × Nat) : FSp := mkF (fun xs H => (WdH.dec H, (aI xs 1).toNat)) (fun x => WdOk x.1 ∧ x.2 < x.1.s.length) (fun x => [.ptr (.hp 3) 0, .int .i64 x.2]) (fun x => x.1.heap)
 (fun x k => cond ((M (x.1.s.drop x.2)).1 == 0) (k (.ret (.int .i64 ((x.2 + (M (x.1.s.drop x.2)).2 : Nat) : Int)) x.1.heap)) (k (.panic (flt (x.1.base + x.2) (M (x.1.s.drop x.2)).1) x.1.heap)))
theorem cutTold'_ok {f : FuncId} {M : Oc → Int × Nat} {L : Lay} (hL : L.OK Tryz.prog) (h : ∀ (x : WdH) (at_ : Nat), WdOk x → at_ < x.s.length → ∀ k, iFun Tryz.prog (L.hd Tryz.prog) L.fhs 0 f [.ptr (.hp 3) 0, .int .i64 at_] x.heap k =
 cond ((M (x.s.drop at_)).1 == 0) (k (.ret (.int .i64 ((at_ + (M (x.s.drop at_)).2 : Nat) : Int)) x.heap)) (k (.panic (flt (x.base + at_) (M (x.s.drop at_)).1) x.heap))) :
 ∀ xs H k out, cutTold' M xs H k = some out → ∃ o, CallOK Tryz.prog f xs H o ∧ k o = some out := mkF_ok fun x hx => by
 have key := h x.1 x.2 hx.1 hx.2
 show ∃ o, (∀ k : Out → Ans, cond ((M (x.1.s.drop x.2)).1 == 0) _ _ = k o) ∧ _
 cases hb : (M (x.1.s.drop x.2)).1 == 0 with
 | true => simp only [hb, cond_true] at key; exact ⟨_, fun k => rfl, hL.call key⟩
 | false => simp only [hb, cond_false] at key; exact ⟨_, fun k => rfl, hL.call key⟩
theorem hd1_drop (s : Oc) (at_ : Nat) : hd1 (s.drop at_) = (decide (((at_ + 1 : Nat) : Int) < s.length) && (ltr (s.getD (at_ + 1) 0) || s.getD (at_ + 1) 0 == 95)) := by
 unfold hd1
 rw [List.getD_drop, List.length_drop]
 rw [show decide (1 < s.length - at_) = decide (((at_ + 1 : Nat) : Int) < s.length) from decide_eq_decide.2 (by omega)]
theorem dot_call (x : WdH) (at_ : Nat) (hx : WdOk x) (ha : at_ < x.s.length) (k : Out → Ans) : iFun Tryz.prog (layD6.hd Tryz.prog) layD6.fhs 0 80 [.ptr (.hp 3) 0, .int .i64 at_] x.heap k =
 cond ((dotM (x.s.drop at_)).1 == 0) (k (.ret (.int .i64 ((at_ + (dotM (x.s.drop at_)).2 : Nat) : Int)) x.heap)) (k (.panic (flt (x.base + at_) (dotM (x.s.drop at_)).1) x.heap)) := by
 have hx' := hx
 obtain ⟨U0, U1, U2, s, base, a, o, O⟩ := x
 obtain ⟨h1, h2, h3⟩ := hx'
 simp only at h1 h2 h3 ha ⊢
 have e2 : (at_ : Int) + 1 = ((at_ + 1 : Nat) : Int) := by omega
 rw [dot_fun]
 have hf := dotsM_fuel s.length (s.drop at_).length (s.drop at_) (by simp) (Nat.le_refl _)
 unfold dotM
 rw [hd1_drop, ← hf]
 simp (disch := first | omega | decide) only [wrap_of, e2, Int.toNat_natCast, ltrI_eq, eqc, bif_or, bif_and]
 by_cases hlt : ((at_ + 1 : Nat) : Int) < s.length
 · simp (disch := omega) only [dT, Bool.true_and, Bool.true_or, cond_true]
   cases hc : ltr (s.getD (at_ + 1) 0) || s.getD (at_ + 1) 0 == 95 with
   | true =>
    simp only [cond_true]
    exact (congrArg (fun c => cond c _ none) (tst_true ⟨⟨hx, show at_ ≤ s.length by omega, by omega⟩, .refl _, by trivial⟩)).trans rfl
   | false => rfl
 · simp (disch := omega) only [dF, Bool.false_and, Bool.and_false, Bool.not_false, Bool.or_true, cond_true, cond_false]
   rfl
theorem dollar_call (x : WdH) (at_ : Nat) (hx : WdOk x) (ha : at_ < x.s.length) (k : Out → Ans) : iFun Tryz.prog (layD6.hd Tryz.prog) layD6.fhs 0 81 [.ptr (.hp 3) 0, .int .i64 at_] x.heap k =
 cond ((dollarM (x.s.drop at_)).1 == 0) (k (.ret (.int .i64 ((at_ + (dollarM (x.s.drop at_)).2 : Nat) : Int)) x.heap)) (k (.panic (flt (x.base + at_) (dollarM (x.s.drop at_)).1) x.heap)) := by
 have hx' := hx
 obtain ⟨U0, U1, U2, s, base, a, o, O⟩ := x
 obtain ⟨h1, h2, h3⟩ := hx'
 simp only at h1 h2 h3 ha ⊢
 have e2 : (at_ : Int) + 1 = ((at_ + 1 : Nat) : Int) := by omega
 rw [dollar_fun]
 unfold dollarM
 have ed : (s.drop at_).drop 1 = s.drop (at_ + 1) := by rw [List.drop_drop]
 have hr := runN_le (s.drop (at_ + 1))
 rw [List.length_drop] at hr
 rw [hd1_drop, ed]
 simp (disch := first | omega | decide) only [wrap_of, e2, Int.toNat_natCast, ltrI_eq, eqc, bif_or, bif_and]
 by_cases hlt : ((at_ + 1 : Nat) : Int) < s.length
 · simp (disch := omega) only [dT, Bool.true_and, Bool.true_or, cond_true]
   have ed2 : (s.drop at_).drop (1 + runN (s.drop (at_ + 1))) = s.drop (at_ + 1 + runN (s.drop (at_ + 1))) := by rw [List.drop_drop]; congr 1; omega
   rw [ed2, dotsM_fuel (s.drop at_).length s.length (s.drop (at_ + 1 + runN (s.drop (at_ + 1)))) (by simp; omega) (by simp), dotsM_fuel (s.drop at_).length s.length (s.drop (at_ + 1)) (by simp; omega) (by simp)]
   cases hc : ltr (s.getD (at_ + 1) 0) || s.getD (at_ + 1) 0 == 95 with
   | true =>
    simp only [cond_true]
    refine (congrArg (fun c => cond c _ none) (tst_true ⟨⟨hx, show at_ + 1 ≤ s.length by omega, by omega⟩, .refl _, by trivial⟩)).trans ?_
    simp only [cond_true]
    cases he : idE (s.drop (at_ + 1)) == 0 with
    | true =>
     simp only [cond_true]
     refine (congrArg (fun c => cond c _ none) (tst_true ⟨⟨hx, show at_ + 1 + runN (s.drop (at_ + 1)) ≤ s.length by omega, by omega⟩, .refl _, by trivial⟩)).trans ?_
     simp only [cond_true]
     rw [show at_ + 1 + runN (s.drop (at_ + 1)) + (dotsM s.length (s.drop (at_ + 1 + runN (s.drop (at_ + 1))))).2 = at_ + (1 + runN (s.drop (at_ + 1)) + (dotsM s.length (s.drop (at_ + 1 + runN (s.drop (at_ + 1))))).2) by omega]
    | false => simp only [cond_false, he]
   | false =>
    simp only [cond_false]
    refine (congrArg (fun c => cond c _ none) (tst_true ⟨⟨hx, show at_ + 1 ≤ s.length by omega, by omega⟩, .refl _, by trivial⟩)).trans ?_
    simp only [cond_true]
    rw [show at_ + 1 + (dotsM s.length (s.drop (at_ + 1))).2 = at_ + (1 + (dotsM s.length (s.drop (at_ + 1))).2) by omega]
 · simp (disch := omega) only [dF, Bool.false_and, Bool.and_false, Bool.not_false, Bool.or_true, cond_true, cond_false]
   rw [dotsM_fuel (s.drop at_).length s.length (s.drop (at_ + 1)) (by simp; omega) (by simp)]
   refine (congrArg (fun c => cond c _ none) (tst_true ⟨⟨hx, show at_ + 1 ≤ s.length by omega, by omega⟩, .refl _, by trivial⟩)).trans ?_
   simp only [cond_true]
   rw [show at_ + 1 + (dotsM s.length (s.drop (at_ + 1))).2 = at_ + (1 + (dotsM s.length (s.drop (at_ + 1))).2) by omega]
end Go.Mu
namespace Go.Mu
open Go Go.Proofs
noncomputable def layN1 : Lay := layX3.addF 107 ixfTold
theorem layN1_ok : layN1.OK Tryz.prog := layX3_ok.addF ixfTold_ok
theorem wrapU {n : Int} (h1 : 0 ≤ n) (h2 : n ≤ 18446744073709551615) : IntKind.u64.wrap n = n := by
 simp [IntKind.wrap, IntKind.signed, IntKind.bits]
 omega
theorem wrapB {n : Int} (h1 : 0 ≤ n) (h2 : n ≤ 255) : IntKind.u8.wrap n = n := by
 simp [IntKind.wrap, IntKind.signed, IntKind.bits]
 omega
theorem wrapI {n : Int} (h1 : -9223372036854775808 ≤ n) (h2 : n ≤ 9223372036854775807) : IntKind.i64.wrap n = n := by
 simp [IntKind.wrap, IntKind.signed, IntKind.bits]
 omega
def numL : Nat → Oc → Bool × Nat
 | n, [] => (false, n)
 | n, c :: t => bif decide (n * 10 + (c.toNat - 48) > 9223372036854775808) then (true, n) else numL (n * 10 + (c.toNat - 48)) t
abbrev byL (f : Bool) (l : Oc) : AVal := .list f l.length (fun i => byteRow (l.getD i 0))
def Digs (l : Oc) : Prop := ∀ c ∈ l, dig c = true
structure NuA where
 b : Bool
 n : Nat
 f : Bool
 l : Oc
 i : Nat
 H : Heap
noncomputable def numSp : LSp := mkL (fun vs _ H => NuA.mk (aB vs 0) (aI vs 1).toNat (fullOf (vs.getD 2 .undef)) (decL decB (vs.getD 2 .undef)) (aI vs 4).toNat H) (fun a => a.i ≤ a.l.length ∧ a.l.length ≤ 1099511627776 ∧ a.n ≤ 9223372036854775808 ∧ Digs a.l) (fun a => [.bool a.b, .int .u64 a.n, byL a.f a.l, .int .i64 a.l.length, .int .i64 a.i]) (fun _ => []) (fun a => a.H)
 (fun a k => cond (numL a.n (a.l.drop a.i)).1 (k .ret [.int .i64 0, .int .i64 4, .bool a.b, .int .u64 (numL a.n (a.l.drop a.i)).2] [] a.H) (k (.exit 0) [.undef, .undef, .bool a.b, .int .u64 (numL a.n (a.l.drop a.i)).2] [] a.H))
noncomputable def numFH : FH := .of [(8, loopSpec 63 [5,6,34,35,36] [] [2,3,5,6] [] numSp)]
theorem num_step (b : Bool) (n : Int) (f : Bool) (l : Oc) (m i : Int) (H : Heap) (D : Dfs) (k : Kont) : lturn Tryz.prog layN1 numFH 95 8 [5,6,34,35,36] [] [2,3,5,6] [] (stL 63 [5,6,34,35,36] [.bool b, .int .u64 n, byL f l, .int .i64 m, .int .i64 i] [] [] H D) k = (
 let n0 : Int := IntKind.u64.wrap (IntKind.u8.wrap ((↑(l.getD i.toNat 0).toNat : Int) - 48));
 let n1 : Int := IntKind.u64.wrap (9223372036854775808 - n0);
  bif decide (i < m) then bif decide (0 ≤ i) && decide (i < (↑l.length : Int)) then bif !(n1 == n1 && false) then bif decide (n > IntKind.u64.wrap (n1.tdiv 10)) then k AExit.ret (stL 63 [2, 3, 5, 6] [AVal.int .i64 0, AVal.int .i64 4, AVal.bool b, AVal.int .u64 n] [] [] H D) else k AExit.normal (stL 63 [5, 6, 34, 35, 36] [AVal.bool b, AVal.int .u64 (IntKind.u64.wrap (IntKind.u64.wrap (n * 10) + n0)), AVal.list f l.length fun i => [AVal.int .u8 (↑(l.getD i 0).toNat : Int)], AVal.int .i64 m, AVal.int .i64 (IntKind.i64.wrap (i + 1))] [] [] H D) else none else none else k (AExit.exit 0) (stL 63 [2, 3, 5, 6] [AVal.undef, AVal.undef, AVal.bool b, AVal.int .u64 n] [] [] H D)) := by kernel_rfl
theorem num_runs (b f : Bool) (l : Oc) (hl : l.length ≤ 1099511627776) (hd : ∀ c ∈ l, dig c = true) (H : Heap) : ∀ (m i n : Nat), l.length - i ≤ m → i ≤ l.length → n ≤ 9223372036854775808 →
 ((numL n (l.drop i)).1 = true → LoopRuns (lturn Tryz.prog layN1 numFH 95 8 [5,6,34,35,36] [] [2,3,5,6] []) 63 [5,6,34,35,36] [] [2,3,5,6] [] [.bool b, .int .u64 n, byL f l, .int .i64 l.length, .int .i64 i] [] H .ret [.int .i64 0, .int .i64 4, .bool b, .int .u64 (numL n (l.drop i)).2] [] H) ∧
 ((numL n (l.drop i)).1 = false → LoopRuns (lturn Tryz.prog layN1 numFH 95 8 [5,6,34,35,36] [] [2,3,5,6] []) 63 [5,6,34,35,36] [] [2,3,5,6] [] [.bool b, .int .u64 n, byL f l, .int .i64 l.length, .int .i64 i] [] H (.exit 0) [.undef, .undef, .bool b, .int .u64 (numL n (l.drop i)).2] [] H) := by
 intro m
 induction m with
 | zero =>
  intro i n hm hi hn
  have e : l.drop i = [] := List.drop_eq_nil_of_le (by omega)
  rw [e]
  refine ⟨fun h => by simp [numL] at h, fun _ => .stop (by simp) (fun D k => ?_)⟩
  rw [num_step]
  simp (disch := omega) only [dF, cond_false]
  rfl
 | succ m ih =>
  intro i n hm hi hn
  by_cases hlt : i < l.length
  · have key := fun D k => num_step b n f l l.length i H D k
    have ed := drop_cons_of l i 0 hlt
    have hc := hd (l.getD i 0) (by rw [gQ, List.getElem?_eq_getElem hlt]; exact List.getElem_mem _)
    have e2 : IntKind.i64.wrap ((i : Int) + 1) = ((i + 1 : Nat) : Int) := by rw [wrap_of (by omega) (by omega)]; omega
    rw [ed, numL]
    simp only [Int.toNat_natCast, e2] at key
    obtain ⟨c, hcc⟩ : ∃ c, c = l.getD i 0 := ⟨_, rfl⟩
    simp only [← hcc] at key hc ⊢
    unfold dig at hc
    rw [Bool.and_eq_true, decide_eq_true_eq, decide_eq_true_eq] at hc
    have e3 : IntKind.u64.wrap (IntKind.u8.wrap ((c.toNat : Int) - 48)) = ((c.toNat - 48 : Nat) : Int) := by rw [wrapB (by omega) (by omega), wrapU (by omega) (by omega)]; omega
    obtain ⟨d, hd'⟩ : ∃ d, d = c.toNat - 48 := ⟨_, rfl⟩
    rw [← hd'] at e3
    simp only [← hd'] at key ⊢
    simp only [e3] at key
    have e4 : IntKind.u64.wrap (9223372036854775808 - (d : Int)) = 9223372036854775808 - (d : Int) := wrapU (by omega) (by omega)
    simp only [e4, Bool.and_false, Bool.not_false, cond_true] at key
    have e5 : (9223372036854775808 - (d : Int)).tdiv 10 = (9223372036854775808 - (d : Int)) / 10 := Int.tdiv_eq_ediv_of_nonneg (by omega)
    have e6 : decide ((n : Int) > IntKind.u64.wrap ((9223372036854775808 - (d : Int)).tdiv 10)) = decide (n * 10 + d > 9223372036854775808) := by
     rw [e5, wrapU (by omega) (by omega)]
     exact decide_eq_decide.2 (by omega)
    simp only [e6] at key
    simp (disch := omega) only [dT, cond_true, Bool.and_self] at key
    by_cases hov : n * 10 + d > 9223372036854775808
    · simp (disch := omega) only [dT, cond_true] at key ⊢
      exact ⟨fun _ => .stop (by simp) key, fun h => by cases h⟩
    · have e7 : IntKind.u64.wrap (IntKind.u64.wrap ((n : Int) * 10) + (d : Int)) = ((n * 10 + d : Nat) : Int) := by
       rw [wrapU (n := (n : Int) * 10) (by omega) (by omega), wrapU (by omega) (by omega)]; omega
      simp (disch := omega) only [dF, cond_false, e7] at key ⊢
      have := ih (i + 1) (n * 10 + d) (by omega) (by omega) (by omega)
      exact ⟨fun h => .step key (this.1 h), fun h => .step key (this.2 h)⟩
  · have e : l.drop i = [] := List.drop_eq_nil_of_le (by omega)
    rw [e]
    refine ⟨fun h => by simp [numL] at h, fun _ => .stop (by simp) (fun D k => ?_)⟩
    rw [num_step]
    simp (disch := omega) only [dF, cond_false]
    rfl
theorem numSp_ok : SpOK (lturn Tryz.prog layN1 numFH 95 8 [5,6,34,35,36] [] [2,3,5,6] []) 63 [5,6,34,35,36] [] [2,3,5,6] [] numSp := mkL_ok fun a h => by
 have key := num_runs a.b a.f a.l h.2.1 h.2.2.2 a.H _ a.i a.n (Nat.le_refl _) h.1 h.2.2.1
 show ∃ e vs bs H, (∀ k : AExit → Vs → List Vs → Heap → Ans, cond (numL a.n (a.l.drop a.i)).1 _ _ = k e vs bs H) ∧ _
 cases hb : (numL a.n (a.l.drop a.i)).1 with
 | true => exact ⟨_, _, _, _, fun k => rfl, key.1 hb⟩
 | false => exact ⟨_, _, _, _, fun k => rfl, key.2 hb⟩
noncomputable def layN2 : Lay := layN1.addL 95 numFH
theorem layN2_ok : layN2.OK Tryz.prog := layN1_ok.loop1 (id := 8) (by kernel_rfl) (by kernel_rfl) (by kernel_rfl) numSp_ok
theorem num_fun (s : Oc) (k : Out → Ans) (n0 : Int) (e_n0 : n0 = ((↑s.length : Int)))
 (c1 : Bool) (e_c1 : c1 = (decide (Lib.idxFunc ndR true (ByteArray.mk (Array.mk s)) ≥ 0)))
 (l2 : Oc) (e_l2 : l2 = (decL (fun (r : Vs) => byteOf r)
  (AVal.list false s.length fun i => [AVal.int .u8 (↑(s.getD i 0).toNat : Int)])))
 (m3 : Nat) (e_m3 : m3 = (l2.length))
 (n4 : Int) (e_n4 : n4 = ((↑(numL (Int.toNat 0) (List.drop (Int.toNat 0) l2)).snd : Int)))
 (l5 : Oc) (e_l5 : l5 = (List.drop (Int.toNat 1) (List.take n0.toNat s)))
 (m6 : Nat) (e_m6 : m6 = (l5.length))
 (n7 : Int) (e_n7 : n7 = ((↑m6 : Int)))
 (c8 : Bool) (e_c8 : c8 = (decide (Lib.idxFunc ndR true (ByteArray.mk (Array.mk l5)) ≥ 0)))
 (l9 : Oc) (e_l9 : l9 = (decL (fun (r : Vs) => byteOf r)
  (AVal.list false m6 fun i =>
   [AVal.int .u8 (↑((List.drop (Int.toNat 1) (List.take (↑s.length : Int).toNat s)).getD i 0).toNat : Int)])))
 (m10 : Nat) (e_m10 : m10 = (l9.length)) : iFun Tryz.prog (layN2.hd Tryz.prog) layN2.fhs 0 95 [.str s] [] k = (
 let z0 := Out.ret (AVal.tuple [AVal.int .i64 0, AVal.int .i64 4]) [];
 let z1 := Out.ret (AVal.tuple [AVal.int .i64 0, AVal.int .i64 33]) [];
 let z2 := Out.ret (AVal.tuple [AVal.int .i64 0, AVal.int .i64 8]) [];
 let z3 := numL (Int.toNat 0) (List.drop (Int.toNat 0) l9);
  bif ![45].isPrefixOf s then bif s == [] then k z2 else bif decide (0 < n0) || !!c1 then bif bif c1 then true else bif (↑(s.getD 0 0).toNat : Int) == 48 then decide (n0 > 1) else false then k z1 else bif tst ((Int.toNat 0 ≤ m3 ∧ m3 ≤ 1099511627776 ∧ Int.toNat 0 ≤ 9223372036854775808 ∧ Digs l2) ∧ SubTL [AVal.bool false, AVal.int .u64 0, AVal.list false s.length fun i => [AVal.int .u8 (↑(s.getD i 0).toNat : Int)], AVal.int .i64 n0, AVal.int .i64 0] [AVal.bool false, AVal.int .u64 (↑(Int.toNat 0) : Int), byL false l2, AVal.int .i64 (↑m3 : Int), AVal.int .i64 (↑(Int.toNat 0) : Int)] ∧ ([] : List Vs) = [] ∧ ([] : Heap) = []) then bif (numL (Int.toNat 0) (List.drop (Int.toNat 0) l2)).fst then k z0 else bif decide (n4 > 9223372036854775807) then k z0 else k (Out.ret (AVal.tuple [AVal.int .i64 (IntKind.i64.wrap n4), AVal.int .i64 0]) []) else none else none else bif decide (1 ≤ n0) && decide (n0 ≤ n0) then bif l5 == [] then k z2 else bif decide (0 < n7) || !!c8 then bif bif c8 then true else bif (↑(l5.getD 0 0).toNat : Int) == 48 then true else false then k z1 else bif tst ((Int.toNat 0 ≤ m10 ∧ m10 ≤ 1099511627776 ∧ Int.toNat 0 ≤ 9223372036854775808 ∧ Digs l9) ∧ SubTL [AVal.bool true, AVal.int .u64 0, AVal.list false m6 fun i => [AVal.int .u8 (↑((List.drop (Int.toNat 1) (List.take (↑s.length : Int).toNat s)).getD i 0).toNat : Int)], AVal.int .i64 n7, AVal.int .i64 0] [AVal.bool true, AVal.int .u64 (↑(Int.toNat 0) : Int), byL false l9, AVal.int .i64 (↑m10 : Int), AVal.int .i64 (↑(Int.toNat 0) : Int)] ∧ ([] : List Vs) = [] ∧ ([] : Heap) = []) then bif z3.fst then k z0 else k (Out.ret (AVal.tuple [AVal.int .i64 (IntKind.i64.wrap (IntKind.u64.wrap (0 - (↑z3.snd : Int)))), AVal.int .i64 0]) []) else none else none else none) := by
  subst e_n0 e_c1 e_l2 e_m3 e_n4 e_l5 e_m6 e_n7 e_c8 e_l9 e_m10
  kernel_rfl
def numM (s : Oc) : Int × Int :=
 bif [45].isPrefixOf s then
  (bif s.drop 1 == [] then (0, 8) else bif (s.drop 1).any ndC || (s.drop 1).getD 0 0 == 48 then (0, 33) else bif (numL 0 (s.drop 1)).1 then (0, 4) else (-((numL 0 (s.drop 1)).2 : Int), 0))
 else (bif s == [] then (0, 8) else bif s.any ndC || (s.getD 0 0 == 48 && decide (1 < s.length)) then (0, 33) else bif (numL 0 s).1 then (0, 4) else bif decide ((numL 0 s).2 > 9223372036854775807) then (0, 4) else ((numL 0 s).2, 0))
theorem numL_le : ∀ (t : Oc) (n : Nat), n ≤ 9223372036854775808 → (numL n t).2 ≤ 9223372036854775808
 | [], n, h => h
 | c :: t, n, h => by
  rw [numL]
  by_cases hb : n * 10 + (c.toNat - 48) > 9223372036854775808
  · rw [dT hb]; exact h
  · rw [dF hb]; exact numL_le t _ (by omega)
theorem wrapNeg {n : Nat} (h : n ≤ 9223372036854775808) : IntKind.i64.wrap (IntKind.u64.wrap (0 - (n : Int))) = -(n : Int) := by
 simp [IntKind.wrap, IntKind.signed, IntKind.bits]
 omega
theorem idx_any (l : Oc) : decide (Lib.idxFunc ndR true ⟨⟨l⟩⟩ ≥ 0) = l.any ndC := by
 have h := idxF_any l l.length 0 (by omega)
 rw [List.drop_zero] at h
 have hs : (⟨⟨l⟩⟩ : ByteArray).size = l.length := by simp [ByteArray.size]
 unfold Lib.idxFunc
 rw [hs]
 exact h
theorem nd_dig (c : UInt8) : ndC c = !dig c := by
 unfold ndC ndR dig
 rw [Bool.eq_iff_iff]
 simp only [Bool.or_eq_true, decide_eq_true_eq, Bool.not_eq_true', Bool.and_eq_false_iff, decide_eq_false_iff_not]
 omega
theorem digs_of {l : Oc} (h : l.any ndC = false) : Digs l := fun c hc => by
 rw [List.any_eq_false] at h
 have := h c hc
 rw [nd_dig] at this
 simpa using this
theorem num_call (s : Oc) (hs : s.length ≤ 1099511627776) (k : Out → Ans) : iFun Tryz.prog (layN2.hd Tryz.prog) layN2.fhs 0 95 [.str s] [] k = k (.ret (.tuple [.int .i64 (numM s).1, .int .i64 (numM s).2]) []) := by
 have e1 : (s.take ((s.length : Nat) : Int).toNat).drop (Int.toNat 1) = s.drop 1 := by rw [Int.toNat_natCast, List.take_length]; rfl
 have hd : (s.drop 1).length ≤ s.length := by simp
 have key := num_fun s k _ rfl (s.any ndC) (idx_any s).symm s (decL_encL (d := 0) (full := false) decB_enc s).symm _ rfl _ rfl (s.drop 1) e1.symm _ rfl _ rfl ((s.drop 1).any ndC) (idx_any _).symm (s.drop 1) (by rw [e1]; exact (decL_encL (d := 0) (full := false) decB_enc (s.drop 1)).symm) _ rfl
 rw [key]
 clear key
 rw [e1]
 unfold numM
 cases hp : [45].isPrefixOf s with
 | false =>
  simp only [Bool.not_false, cond_true, cond_false]
  cases s with
  | nil => rfl
  | cons c t =>
   have hne : ((c :: t) == []) = false := rfl
   simp only [hne, cond_false]
   have hl : (c :: t).length ≥ 1 := by simp
   generalize c :: t = s at *
   simp (disch := first | omega | decide) only [dT, Bool.true_or, cond_true, eqc, bif_or, bif_and]
   rw [show decide ((s.length : Int) > 1) = decide (1 < s.length) from decide_eq_decide.2 (by omega)]
   cases hb : s.any ndC || (s.getD 0 0 == 48 && decide (1 < s.length)) with
   | true => rfl
   | false =>
    simp only [cond_false]
    rw [Bool.or_eq_false_iff] at hb
    refine (congrArg (fun c => cond c _ none) (tst_true ⟨⟨Nat.zero_le _, hs, Nat.zero_le _, digs_of hb.1⟩, .refl _, by trivial, by trivial⟩)).trans ?_
    simp only [cond_true, Int.toNat_zero, List.drop_zero]
    have hn := numL_le s 0 (by omega)
    cases (numL 0 s).1 with
    | true => rfl
    | false =>
     simp only [cond_false]
     rw [show decide (((numL 0 s).2 : Int) > 9223372036854775807) = decide ((numL 0 s).2 > 9223372036854775807) from decide_eq_decide.2 (by omega)]
     by_cases hg : (numL 0 s).2 > 9223372036854775807
     · rw [dT hg]; rfl
     · rw [dF hg]
       simp only [cond_false]
       rw [wrapI (by omega) (by omega)]
 | true =>
  have hl := pre_len hp
  simp only [List.length_cons, List.length_nil] at hl
  simp only [Bool.not_true, cond_true, cond_false]
  simp (disch := omega) only [dT, Bool.and_self, cond_true]
  generalize s.drop 1 = u at *
  cases u with
  | nil => rfl
  | cons c t =>
   have hne : ((c :: t) == []) = false := rfl
   simp only [hne, cond_false]
   have hl : (c :: t).length ≥ 1 := by simp
   generalize c :: t = s at *
   simp (disch := first | omega | decide) only [dT, Bool.true_or, cond_true, eqc, bif_or, bif_and, Bool.and_true]
   cases hb : s.any ndC || s.getD 0 0 == 48 with
   | true => rfl
   | false =>
    simp only [cond_false]
    rw [Bool.or_eq_false_iff] at hb
    refine (congrArg (fun c => cond c _ none) (tst_true ⟨⟨Nat.zero_le _, by omega, Nat.zero_le _, digs_of hb.1⟩, .refl _, by trivial, by trivial⟩)).trans ?_
    simp only [cond_true, Int.toNat_zero, List.drop_zero]
    have hn := numL_le s 0 (by omega)
    cases (numL 0 s).1 with
    | true => rfl
    | false =>
     simp only [cond_false]
     rw [wrapNeg hn]
def numTold : FSp := mkFS [.s] (fun xs => decide ((aS xs 0).length ≤ 1099511627776)) (fun xs k => k (.ret (.tuple [.int .i64 (numM (aS xs 0)).1, .int .i64 (numM (aS xs 0)).2]) []))
theorem numTold_ok : ∀ xs H k out, numTold xs H k = some out → ∃ o, CallOK Tryz.prog 95 xs H o ∧ k o = some out := mkFS_ok fun ys xs e h => by
 obtain ⟨s, rfl⟩ : ∃ s, xs = [.str s] := ⟨_, e⟩
 exact ⟨_, fun k => rfl, layN2_ok.callF (G := []) rfl (fun k => num_call s (of_decide_eq_true h) k)⟩
end Go.Mu
namespace Go.Mu
open Go Go.Proofs
abbrev bdT : Nat := 59
structure Bld where
 ad : AVal
 b : AVal
 rows : List Vs
 v : Nat
def Bld.can (i j : Nat) (x : Bld) : Prop := (x.ad = .nilptr ∨ x.ad = .ptr (.hp i) 0) ∧ x.rows = (bytesOf x.rows).map byteRow ∧ x.b = bfB j (bytesOf x.rows) x.v
abbrev Bld.t (x : Bld) : Oc := bytesOf x.rows
def Bld.add (i j : Nat) (x : Bld) (l : Oc) : Bld := ⟨.ptr (.hp i) 0, bfB j (x.t ++ l) (wsV x.t l x.v), x.rows ++ l.map byteRow, wsV x.t l x.v⟩
theorem Bld.add_t (i j : Nat) (x : Bld) (l : Oc) : (Bld.add i j x l).t = x.t ++ l := by
 show bytesOf (x.rows ++ l.map byteRow) = _
 have := bytesOf_map l
 unfold bytesOf at this
 show (x.rows ++ l.map byteRow).map byteOf = x.rows.map byteOf ++ l
 rw [List.map_append, this]
theorem Bld.add_can {i j : Nat} {x : Bld} (h : x.can i j) (l : Oc) : (Bld.add i j x l).can i j := by
 refine ⟨.inr rfl, ?_, ?_⟩
 · show (Bld.add i j x l).rows = ((Bld.add i j x l).t).map byteRow
   rw [Bld.add_t, List.map_append, ← h.2.1]; rfl
 · show (Bld.add i j x l).b = bfB j ((Bld.add i j x l).t) _
   rw [Bld.add_t]; rfl
def Bld.dead (x : Bld) : Bld := { x with rows := [], v := bif x.t == [] then x.v else x.v + 1 }
def Bld.new : Bld := ⟨.nilptr, .nilX, [], 0⟩
theorem Bld.new_can (i j : Nat) : Bld.new.can i j := ⟨.inl rfl, rfl, rfl⟩
abbrev bld (H : Heap) (i j : Nat) : Bld := ⟨(cellsO (H.getD i (.var []))).getD 0 .undef, (cellsO (H.getD i (.var []))).getD 1 .undef, rowsO (H.getD j (.var [])), verO (H.getD j (.var []))⟩
end Go.Mu
namespace Go.Mu
open Go Go.Proofs
abbrev b7P (P0 P1 P2 P3 P4 P5 P6 : Obj) (ad b : AVal) (O : Obj) : Heap := [P0, P1, P2, P3, P4, P5, P6, .var [ad, b], .note bdT 2, O, .note bT 0]
structure b7H where
 P0 : Obj
 P1 : Obj
 P2 : Obj
 P3 : Obj
 P4 : Obj
 P5 : Obj
 P6 : Obj
 x : Bld
abbrev b7H.heap (x : b7H) : Heap := b7P x.P0 x.P1 x.P2 x.P3 x.P4 x.P5 x.P6 x.x.ad x.x.b (.arr 1 x.x.rows x.x.v)
def b7H.dec (H : Heap) : b7H := ⟨H.getD 0 (.var []), H.getD 1 (.var []), H.getD 2 (.var []), H.getD 3 (.var []), H.getD 4 (.var []), H.getD 5 (.var []), H.getD 6 (.var []), bld H 7 9⟩
theorem b7_ws0 (P0 P1 P2 P3 P4 P5 P6 : Obj) (O : Obj) (k : Out → Ans) : iFun Tryz.prog (layW0.hd Tryz.prog) layW0.fhs 0 30 [.ptr (.hp 7) 0, .str []] (b7P P0 P1 P2 P3 P4 P5 P6 .nilptr .nilX O) k = (
 k
 (Out.ret (AVal.tuple [AVal.int .i64 0, AVal.nilIface])
  [P0, P1, P2, P3, P4, P5, P6, Obj.var [AVal.ptr (Oid.hp 7) 0, AVal.nilX], Obj.note 59 2, O, Obj.note 5 0])) := by kernel_rfl
theorem b7_ws1 (P0 P1 P2 P3 P4 P5 P6 : Obj) (O : Obj) (k : Out → Ans) : iFun Tryz.prog (layW0.hd Tryz.prog) layW0.fhs 0 30 [.ptr (.hp 7) 0, .str []] (b7P P0 P1 P2 P3 P4 P5 P6 (.ptr (.hp 7) 0) .nilX O) k = (
 k
 (Out.ret (AVal.tuple [AVal.int .i64 0, AVal.nilIface])
  [P0, P1, P2, P3, P4, P5, P6, Obj.var [AVal.ptr (Oid.hp 7) 0, AVal.nilX], Obj.note 59 2, O, Obj.note 5 0])) := by kernel_rfl
theorem b7_ws2 (P0 P1 P2 P3 P4 P5 P6 : Obj) (l : Oc) (n v : Nat) (rows : List Vs) (k : Out → Ans) : iFun Tryz.prog (Lay.nil.hd Tryz.prog) Lay.nil.fhs 0 30 [.ptr (.hp 7) 0, .str l] (b7P P0 P1 P2 P3 P4 P5 P6 .nilptr (.own 9 0 n v false) (.arr 1 rows v)) k = (
 let m0 : Nat := n + (List.map (fun (c : UInt8) => [AVal.int .u8 (↑c.toNat : Int)]) l).length;
 let m1 : Nat := v + 1;
  bif v == v && n == rows.length && decide ((2 * m0 + 1000) * 1 ≤ 281474976710656) && true then
  k
  (Out.ret (AVal.tuple [AVal.int .i64 (↑l.length : Int), AVal.nilIface])
  [P0, P1, P2, P3, P4, P5, P6, Obj.var [AVal.ptr (Oid.hp 7) 0, AVal.own 9 0 m0 m1 false], Obj.note 59 2,
  Obj.arr 1 (rows.append (List.map (fun (c : UInt8) => [AVal.int .u8 (↑c.toNat : Int)]) l)) m1,
  Obj.note 5 0])
  else none) := by kernel_rfl
theorem b7_ws3 (P0 P1 P2 P3 P4 P5 P6 : Obj) (l : Oc) (n v : Nat) (rows : List Vs) (k : Out → Ans) : iFun Tryz.prog (Lay.nil.hd Tryz.prog) Lay.nil.fhs 0 30 [.ptr (.hp 7) 0, .str l] (b7P P0 P1 P2 P3 P4 P5 P6 (.ptr (.hp 7) 0) (.own 9 0 n v false) (.arr 1 rows v)) k = (
 let m0 : Nat := n + (List.map (fun (c : UInt8) => [AVal.int .u8 (↑c.toNat : Int)]) l).length;
 let m1 : Nat := v + 1;
  bif v == v && n == rows.length && decide ((2 * m0 + 1000) * 1 ≤ 281474976710656) && true then
  k
  (Out.ret (AVal.tuple [AVal.int .i64 (↑l.length : Int), AVal.nilIface])
  [P0, P1, P2, P3, P4, P5, P6, Obj.var [AVal.ptr (Oid.hp 7) 0, AVal.own 9 0 m0 m1 false], Obj.note 59 2,
  Obj.arr 1 (rows.append (List.map (fun (c : UInt8) => [AVal.int .u8 (↑c.toNat : Int)]) l)) m1,
  Obj.note 5 0])
  else none) := by kernel_rfl
theorem b7_wb2 (P0 P1 P2 P3 P4 P5 P6 : Obj) (c : UInt8) (n v : Nat) (rows : List Vs) (k : Out → Ans) : iFun Tryz.prog (Lay.nil.hd Tryz.prog) Lay.nil.fhs 0 97 [.ptr (.hp 7) 0, .int .u8 c.toNat] (b7P P0 P1 P2 P3 P4 P5 P6 .nilptr (.own 9 0 n v false) (.arr 1 rows v)) k = (
 let m0 : Nat := n + 1;
 let m1 : Nat := v + 1;
  bif v == v && n == rows.length && decide ((2 * m0 + 1000) * 1 ≤ 281474976710656) && true then
  k
  (Out.ret AVal.nilIface
  [P0, P1, P2, P3, P4, P5, P6, Obj.var [AVal.ptr (Oid.hp 7) 0, AVal.own 9 0 m0 m1 false], Obj.note 59 2,
  Obj.arr 1 (rows.append [[AVal.int .u8 (↑c.toNat : Int)]]) m1, Obj.note 5 0])
  else none) := by kernel_rfl
theorem b7_wb3 (P0 P1 P2 P3 P4 P5 P6 : Obj) (c : UInt8) (n v : Nat) (rows : List Vs) (k : Out → Ans) : iFun Tryz.prog (Lay.nil.hd Tryz.prog) Lay.nil.fhs 0 97 [.ptr (.hp 7) 0, .int .u8 c.toNat] (b7P P0 P1 P2 P3 P4 P5 P6 (.ptr (.hp 7) 0) (.own 9 0 n v false) (.arr 1 rows v)) k = (
 let m0 : Nat := n + 1;
 let m1 : Nat := v + 1;
  bif v == v && n == rows.length && decide ((2 * m0 + 1000) * 1 ≤ 281474976710656) && true then
  k
  (Out.ret AVal.nilIface
  [P0, P1, P2, P3, P4, P5, P6, Obj.var [AVal.ptr (Oid.hp 7) 0, AVal.own 9 0 m0 m1 false], Obj.note 59 2,
  Obj.arr 1 (rows.append [[AVal.int .u8 (↑c.toNat : Int)]]) m1, Obj.note 5 0])
  else none) := by kernel_rfl
theorem b7_len0 (P0 P1 P2 P3 P4 P5 P6 : Obj) (ad : AVal) (O : Obj) (k : Out → Ans) : iFun Tryz.prog (Lay.nil.hd Tryz.prog) Lay.nil.fhs 0 29 [.ptr (.hp 7) 0] (b7P P0 P1 P2 P3 P4 P5 P6 ad .nilX O) k = (
 k (Out.ret (AVal.int .i64 0) (b7P P0 P1 P2 P3 P4 P5 P6 ad AVal.nilX O))) := by kernel_rfl
theorem b7_len1 (P0 P1 P2 P3 P4 P5 P6 : Obj) (ad : AVal) (n v : Nat) (O : Obj) (k : Out → Ans) : iFun Tryz.prog (Lay.nil.hd Tryz.prog) Lay.nil.fhs 0 29 [.ptr (.hp 7) 0] (b7P P0 P1 P2 P3 P4 P5 P6 ad (.own 9 0 n v false) O) k = (
 k (Out.ret (AVal.int .i64 (↑n : Int)) (b7P P0 P1 P2 P3 P4 P5 P6 ad (AVal.own 9 0 n v false) O))) := by kernel_rfl
theorem b7_ws (x : b7H) (l : Oc) (hx : x.x.can 7 9) (h : x.x.t.length + l.length ≤ 1099511627776) : CallOK Tryz.prog 30 [.ptr (.hp 7) 0, .str l] x.heap (.ret (.tuple [.int .i64 l.length, .nilIface]) ({ x with x := x.x.add 7 9 l } : b7H).heap) := by
 obtain ⟨P0, P1, P2, P3, P4, P5, P6, ⟨ad, b, rows, v⟩⟩ := x
 obtain ⟨h1, h2, h3⟩ := hx
 unfold Bld.add Bld.t
 simp only [Bld.t] at h h1 h2 h3 ⊢
 generalize bytesOf rows = text at *
 subst h2 h3
 cases text with
 | nil =>
  cases l with
  | nil =>
   refine layW0_ok.call (fun k => ?_)
   rcases h1 with rfl | rfl
   · exact b7_ws0 P0 P1 P2 P3 P4 P5 P6 (.arr 1 [] v) k
   · exact b7_ws1 P0 P1 P2 P3 P4 P5 P6 (.arr 1 [] v) k
  | cons c t =>
   refine relAt_ok (i := 7) (c := 1) (j := 9) ?_
   simp only [List.length_nil] at h
   refine Lay.nil_ok.call (fun k => ?_)
   have e3 : wsV [] (c :: t) v = v + 1 + 1 := rfl
   rw [e3]
   generalize hl : c :: t = l at *
   have e4 : bfB 9 ([] ++ l) (v + 1 + 1) = .own 9 0 l.length (v + 1 + 1) false := by rw [← hl]; rfl
   rw [e4]
   rcases h1 with rfl | rfl
   · rw [show relAt 7 1 9 (b7P P0 P1 P2 P3 P4 P5 P6 .nilptr (bfB 9 [] v) (.arr 1 (([] : Oc).map byteRow) v)) = b7P P0 P1 P2 P3 P4 P5 P6 .nilptr (.own 9 0 0 (v + 1) false) (.arr 1 [] (v + 1)) from rfl, b7_ws2]
     simp (disch := omega) only [e_map, List.length_map, dT, beq_self_eq_true, Bool.and_true, cond_true, List.append_eq, List.nil_append, Nat.zero_add, List.length_nil, Nat.mul_one, List.map_nil]
   · rw [show relAt 7 1 9 (b7P P0 P1 P2 P3 P4 P5 P6 (.ptr (.hp 7) 0) (bfB 9 [] v) (.arr 1 (([] : Oc).map byteRow) v)) = b7P P0 P1 P2 P3 P4 P5 P6 (.ptr (.hp 7) 0) (.own 9 0 0 (v + 1) false) (.arr 1 [] (v + 1)) from rfl, b7_ws3]
     simp (disch := omega) only [e_map, List.length_map, dT, beq_self_eq_true, Bool.and_true, cond_true, List.append_eq, List.nil_append, Nat.zero_add, List.length_nil, Nat.mul_one, List.map_nil]
 | cons c t =>
  refine Lay.nil_ok.call (fun k => ?_)
  have e3 : wsV (c :: t) l v = v + 1 := rfl
  have e4 : bfB 9 ((c :: t) ++ l) (v + 1) = .own 9 0 ((c :: t) ++ l).length (v + 1) false := rfl
  have e5 : bfB 9 (c :: t) v = .own 9 0 (c :: t).length v false := rfl
  rw [e3, e4, e5]
  generalize c :: t = m at *
  rcases h1 with rfl | rfl
  · rw [b7_ws2]
    simp (disch := omega) only [e_map, List.length_map, dT, beq_self_eq_true, Bool.and_true, cond_true, List.append_eq, List.length_append, Nat.mul_one]
  · rw [b7_ws3]
    simp (disch := omega) only [e_map, List.length_map, dT, beq_self_eq_true, Bool.and_true, cond_true, List.append_eq, List.length_append, Nat.mul_one]
theorem b7_wb (x : b7H) (c : UInt8) (hx : x.x.can 7 9) (h : x.x.t.length ≤ 1073741824) : CallOK Tryz.prog 97 [.ptr (.hp 7) 0, .int .u8 c.toNat] x.heap (.ret .nilIface ({ x with x := x.x.add 7 9 [c] } : b7H).heap) := by
 obtain ⟨P0, P1, P2, P3, P4, P5, P6, ⟨ad, b, rows, v⟩⟩ := x
 obtain ⟨h1, h2, h3⟩ := hx
 unfold Bld.add Bld.t
 simp only [Bld.t] at h h1 h2 h3 ⊢
 generalize bytesOf rows = text at *
 subst h2 h3
 have e6 : [c].map byteRow = [[.int .u8 c.toNat]] := rfl
 rw [e6]
 cases text with
 | nil =>
  refine relAt_ok (i := 7) (c := 1) (j := 9) ?_
  refine Lay.nil_ok.call (fun k => ?_)
  have e3 : wsV [] [c] v = v + 1 + 1 := rfl
  have e4 : bfB 9 ([] ++ [c]) (v + 1 + 1) = .own 9 0 1 (v + 1 + 1) false := rfl
  rw [e3, e4]
  rcases h1 with rfl | rfl
  · rw [show relAt 7 1 9 (b7P P0 P1 P2 P3 P4 P5 P6 .nilptr (bfB 9 [] v) (.arr 1 (([] : Oc).map byteRow) v)) = b7P P0 P1 P2 P3 P4 P5 P6 .nilptr (.own 9 0 0 (v + 1) false) (.arr 1 [] (v + 1)) from rfl, b7_wb2]
    simp only [beq_self_eq_true]
    rfl
  · rw [show relAt 7 1 9 (b7P P0 P1 P2 P3 P4 P5 P6 (.ptr (.hp 7) 0) (bfB 9 [] v) (.arr 1 (([] : Oc).map byteRow) v)) = b7P P0 P1 P2 P3 P4 P5 P6 (.ptr (.hp 7) 0) (.own 9 0 0 (v + 1) false) (.arr 1 [] (v + 1)) from rfl, b7_wb3]
    simp only [beq_self_eq_true]
    rfl
 | cons d t =>
  refine Lay.nil_ok.call (fun k => ?_)
  have e3 : wsV (d :: t) [c] v = v + 1 := rfl
  have e4 : bfB 9 ((d :: t) ++ [c]) (v + 1) = .own 9 0 ((d :: t) ++ [c]).length (v + 1) false := rfl
  have e5 : bfB 9 (d :: t) v = .own 9 0 (d :: t).length v false := rfl
  rw [e3, e4, e5]
  generalize d :: t = m at *
  rcases h1 with rfl | rfl
  · rw [b7_wb2]
    simp (disch := omega) only [e_map, List.length_map, dT, beq_self_eq_true, Bool.and_true, cond_true, List.append_eq, List.length_append, Nat.mul_one, List.length_cons, List.length_nil]
  · rw [b7_wb3]
    simp (disch := omega) only [e_map, List.length_map, dT, beq_self_eq_true, Bool.and_true, cond_true, List.append_eq, List.length_append, Nat.mul_one, List.length_cons, List.length_nil]
theorem b7_len (x : b7H) (hx : x.x.can 7 9) : CallOK Tryz.prog 29 [.ptr (.hp 7) 0] x.heap (.ret (.int .i64 x.x.t.length) x.heap) := by
 obtain ⟨P0, P1, P2, P3, P4, P5, P6, ⟨ad, b, rows, v⟩⟩ := x
 obtain ⟨h1, h2, h3⟩ := hx
 simp only [Bld.t] at h1 h2 h3 ⊢
 generalize bytesOf rows = text at *
 subst h2 h3
 refine Lay.nil_ok.call (fun k => ?_)
 cases text with
 | nil => exact b7_len0 P0 P1 P2 P3 P4 P5 P6 ad _ k
 | cons c t => exact b7_len1 P0 P1 P2 P3 P4 P5 P6 ad (c :: t).length v _ k
theorem b7_str (x : b7H) (hx : x.x.can 7 9) (h : x.x.t.length ≤ 1099511627776) : CallOK Tryz.prog 37 [.ptr (.hp 7) 0] x.heap (.ret (.str x.x.t) ({ x with x := x.x.dead } : b7H).heap) := by
 obtain ⟨P0, P1, P2, P3, P4, P5, P6, ⟨ad, b, rows, v⟩⟩ := x
 obtain ⟨h1, h2, h3⟩ := hx
 unfold Bld.dead Bld.t
 simp only [Bld.t] at h h1 h2 h3 ⊢
 generalize bytesOf rows = text at *
 subst h2 h3
 cases text with
 | nil => exact str_ok0 (cs := [ad, .nilX]) rfl rfl
 | cons c t => exact str_ok (i := 7) (off := 0) (j := 9) (u := v) (cs := [ad, .own 9 0 (c :: t).length v false]) (l := c :: t) rfl rfl rfl rfl (by simp) h
noncomputable def b7_wsTold : FSp := mkF (fun xs H => (b7H.dec H, aS xs 1)) (fun x => x.1.x.can 7 9 ∧ x.1.x.t.length + x.2.length ≤ 1099511627776) (fun x => [.ptr (.hp 7) 0, .str x.2]) (fun x => x.1.heap) (fun x k => k (.ret (.tuple [.int .i64 x.2.length, .nilIface]) ({ x.1 with x := x.1.x.add 7 9 x.2 } : b7H).heap))
noncomputable def b7_wbTold : FSp := mkF (fun xs H => (b7H.dec H, UInt8.ofNat (aI xs 1).toNat)) (fun x => x.1.x.can 7 9 ∧ x.1.x.t.length ≤ 1073741824) (fun x => [.ptr (.hp 7) 0, .int .u8 x.2.toNat]) (fun x => x.1.heap) (fun x k => k (.ret .nilIface ({ x.1 with x := x.1.x.add 7 9 [x.2] } : b7H).heap))
noncomputable def b7_lenTold : FSp := mkF (fun xs H => b7H.dec H) (fun x => x.x.can 7 9) (fun x => [.ptr (.hp 7) 0]) (fun x => x.heap) (fun x k => k (.ret (.int .i64 x.x.t.length) x.heap))
noncomputable def b7_strTold : FSp := mkF (fun xs H => b7H.dec H) (fun x => x.x.can 7 9 ∧ x.x.t.length ≤ 1099511627776) (fun x => [.ptr (.hp 7) 0]) (fun x => x.heap) (fun x k => k (.ret (.str x.x.t) ({ x with x := x.x.dead } : b7H).heap))
noncomputable def b7_lay (L : Lay) : Lay := (((L.addF 30 b7_wsTold).addF 97 b7_wbTold).addF 29 b7_lenTold).addF 37 b7_strTold
theorem b7_ok {L : Lay} (h : L.OK Tryz.prog) : (b7_lay L).OK Tryz.prog :=
 (((h.addF (mkF_ok fun x h => ⟨_, fun k => rfl, b7_ws x.1 x.2 h.1 h.2⟩)).addF (mkF_ok fun x h => ⟨_, fun k => rfl, b7_wb x.1 x.2 h.1 h.2⟩)).addF (mkF_ok fun x h => ⟨_, fun k => rfl, b7_len x h⟩)).addF (mkF_ok fun x h => ⟨_, fun k => rfl, b7_str x h.1 h.2⟩)
end Go.Mu
namespace Go.Mu
open Go Go.Proofs
structure StA where
 w : WdH
 x : Bld
 at_ : Nat
 i : Nat
abbrev stP (w : WdH) (x : Bld) : Heap := b7P w.U0 w.U1 w.U2 (.var [.str w.s, .int .i64 w.base, .int .i64 w.a, w.o]) (.note wsT 4) w.O (.note wdT 0) x.ad x.b (.arr 1 x.rows x.v)
noncomputable def layS1 : Lay := b7_lay layX3
theorem layS1_ok : layS1.OK Tryz.prog := b7_ok layX3_ok
def escI (d : UInt8) : Int :=
 let n11 : Int := if (34 == d) = true then 0 else -1
 let n12 : Int := if (92 == d) = true then 0 else if (n11 == -1) = true then -1 else n11 + 1
 let n13 : Int := if (116 == d) = true then 0 else if (n12 == -1) = true then -1 else n12 + 1
 if (110 == d) = true then 0 else if (n13 == -1) = true then -1 else n13 + 1
def escO (d : UInt8) : UInt8 := [10, 9, 92, 34].getD (escI d).toNat 0
theorem escI_lt (d : UInt8) : escI d < 4 := by
 have h : ∀ n : Fin 256, escI (UInt8.ofNat n) < 4 := by decide +kernel
 have := h ⟨d.toNat, d.toNat_lt⟩
 simpa using this
theorem ofU8 (c : UInt8) : UInt8.ofNat (c.toNat : Int).toNat = c := by simp
theorem nec {c : UInt8} {n : Nat} (h : n < 256) : ((c.toNat : Int) != no_index (@OfNat.ofNat Int n _)) = !(c == (@OfNat.ofNat UInt8 n _)) := by
 rw [bne, eqc h]
structure StR where
 e : Int
 fin : Bool
 off : Nat
 text : Oc
 upto_ : Nat
 x : Bld
def strM (at_ : Nat) : Oc → Bld → Nat → StR
 | [], x, i => ⟨33, true, at_, [], 0, x⟩
 | [c], x, i => bif c == 34 then (bif decide (x.t.length ≤ 4096) then ⟨0, false, 0, x.t, i + 1, x.dead⟩ else ⟨5, false, at_, [], 0, x⟩) else bif c == 92 || c == 10 then ⟨33, false, i, [], 0, x⟩ else ⟨33, true, at_, [], 0, x.add 7 9 [c]⟩
 | c :: d :: u, x, i => bif c == 34 then (bif decide (x.t.length ≤ 4096) then ⟨0, false, 0, x.t, i + 1, x.dead⟩ else ⟨5, false, at_, [], 0, x⟩) else bif c == 92 && decide (escI d ≥ 0) then strM at_ u (x.add 7 9 [escO d]) (i + 2) else bif c == 92 || c == 10 then ⟨33, false, i, [], 0, x⟩ else strM at_ (d :: u) (x.add 7 9 [c]) (i + 1)
noncomputable def strwSp : LSp := mkL (fun vs _ H => (WdH.dec H, bld H 7 9, (aI vs 1).toNat, (aI vs 3).toNat)) (fun x => WdOk x.1 ∧ x.2.2.1 ≤ x.1.s.length ∧ x.2.2.2 ≤ x.1.s.length ∧ x.2.1.can 7 9 ∧ x.2.1.t.length ≤ x.2.2.2) (fun x => [.ptr (.hp 3) 0, .int .i64 x.2.2.1, .ptr (.hp 7) 0, .int .i64 x.2.2.2]) (fun _ => []) (fun x => stP x.1 x.2.1)
 (fun x k => cond ((strM x.2.2.1 (x.1.s.drop x.2.2.2) x.2.1 x.2.2.2).e == 0) (k .ret [.ptr (.hp 3) 0, .int .i64 x.2.2.1, .str (strM x.2.2.1 (x.1.s.drop x.2.2.2) x.2.1 x.2.2.2).text, .int .i64 (strM x.2.2.1 (x.1.s.drop x.2.2.2) x.2.1 x.2.2.2).upto_] [] (stP x.1 (strM x.2.2.1 (x.1.s.drop x.2.2.2) x.2.1 x.2.2.2).x))
  (cond (strM x.2.2.1 (x.1.s.drop x.2.2.2) x.2.1 x.2.2.2).fin (k (.exit 0) [.ptr (.hp 3) 0, .int .i64 x.2.2.1, .undef, .undef] [] (stP x.1 (strM x.2.2.1 (x.1.s.drop x.2.2.2) x.2.1 x.2.2.2).x))
   (k (.panic (flt (x.1.base + (strM x.2.2.1 (x.1.s.drop x.2.2.2) x.2.1 x.2.2.2).off) (strM x.2.2.1 (x.1.s.drop x.2.2.2) x.2.1 x.2.2.2).e)) [.ptr (.hp 3) 0, .int .i64 x.2.2.1, .undef, .undef] [] (stP x.1 (strM x.2.2.1 (x.1.s.drop x.2.2.2) x.2.1 x.2.2.2).x))))
noncomputable def strwFH : FH := { FH.of [(3, loopSpec 98 [0,1,6,7] [] [0,1,4,5] [] strwSp)] with heap := [6], typed := [(6, [(0, bT)])], exact := true }
theorem strw_step (U0 U1 U2 : Obj) (s : Oc) (base a : Int) (o : AVal) (O : Obj) (x : Bld) (at_ i : Int) (D : Dfs) (k : Kont) (n0 : Int) (e_n0 : n0 = ((↑s.length : Int)))
 (c1 : Bool) (e_c1 : c1 = (decide (i < n0)))
 (n2 : Int) (e_n2 : n2 = ((↑(s.getD i.toNat 0).toNat : Int)))
 (l3 : Oc) (e_l3 : l3 = ((Bld.mk x.ad x.b x.rows x.v).t))
 (m4 : Nat) (e_m4 : m4 = (l3.length))
 (c5 : Bool) (e_c5 : c5 = (sameV (AVal.int .i64 base) (AVal.int .i64 base) && true && true && true))
 (n6 : Int) (e_n6 : n6 = (IntKind.i64.wrap (i + 1)))
 (c7 : Bool) (e_c7 : c7 = (decide (n6 < n0)))
 (c8 : Bool) (e_c8 : c8 = (decide (0 ≤ n6) && c7))
 (c9 : Bool) (e_c9 : c9 = (bif n2 == 92 then c7 else false))
 (v10 : UInt8) (e_v10 : v10 = ((↑(s.getD n6.toNat 0).toNat : Int).toNat.toUInt8))
 (n11 : Int) (e_n11 : n11 = (if (34 == v10) = true then 0 else -1))
 (n12 : Int) (e_n12 : n12 = (if (92 == v10) = true then 0 else if (n11 == -1) = true then -1 else n11 + 1))
 (n13 : Int) (e_n13 : n13 = (if (116 == v10) = true then 0 else if (n12 == -1) = true then -1 else n12 + 1))
 (n14 : Int) (e_n14 : n14 = (if (110 == v10) = true then 0 else if (n13 == -1) = true then -1 else n13 + 1))
 (n15 : Int) (e_n15 : n15 = ((↑(([10, 9, 92, 34] : Oc).getD n14.toNat 0).toNat : Int)))
 (v16 : UInt8) (e_v16 : v16 = (UInt8.ofNat n15.toNat))
 (l17 : Oc) (e_l17 : l17 = ([v16]))
 (m18 : Nat) (e_m18 : m18 = (wsV l3 l17 x.v))
 (v19 : UInt8) (e_v19 : v19 = (UInt8.ofNat n2.toNat))
 (l20 : Oc) (e_l20 : l20 = ([v19]))
 (m21 : Nat) (e_m21 : m21 = (wsV l3 l20 x.v)) : lturn Tryz.prog layS1 strwFH 83 3 [0,1,6,7] [] [0,1,4,5] [] (stL 98 [0,1,6,7] [.ptr (.hp 3) 0, .int .i64 at_, .ptr (.hp 7) 0, .int .i64 i] [] [] (stP ⟨U0, U1, U2, s, base, a, o, O⟩ x) D) k = (
 let z1 := Obj.var [AVal.str s, AVal.int .i64 base, AVal.int .i64 a, o];
 let z3 := Bld.mk x.ad x.b x.rows x.v;
 let z0 := b7H.mk U0 U1 U2 z1 (Obj.note 116 4) O (Obj.note 94 0) z3;
 let z4 := WdH.mk U0 U1 U2 s base a o O;
 let z5 := [AVal.ptr (Oid.hp 3) 0, AVal.int .i64 at_, AVal.undef, AVal.undef];
 let z2 := stL 98 [0, 1, 4, 5] z5 [] [] (stP z4 x) D;
  bif c1 then bif decide (0 ≤ i) && c1 then bif n2 == 34 then bif tst (Bld.can 7 9 z3 ∧ SubL [AVal.ptr (Oid.hp 7) 0] [AVal.ptr (Oid.hp 7) 0] ∧ stP z4 x = z0.heap) then bif !decide ((↑m4 : Int) ≤ 4096) then bif c5 then k (AExit.panic (AVal.iface 53 (AVal.agg [AVal.int .i64 (IntKind.i64.wrap (base + at_)), AVal.int .i64 5]))) (stL 98 [0, 1, 4, 5] z5 [] [] z0.heap D) else none else bif c5 then bif tst ((Bld.can 7 9 z3 ∧ m4 ≤ 1099511627776) ∧ SubL [AVal.ptr (Oid.hp 7) 0] [AVal.ptr (Oid.hp 7) 0] ∧ z0.heap = z0.heap) then k AExit.ret (stL 98 [0, 1, 4, 5] [AVal.ptr (Oid.hp 3) 0, AVal.int .i64 at_, AVal.str l3, AVal.int .i64 n6] [] [] (b7H.mk U0 U1 U2 z1 (Obj.note 116 4) O (Obj.note 94 0) (Bld.mk x.ad x.b [] (bif l3 == [] then x.v else x.v + 1))).heap D) else none else none else none else bif c8 || !c9 then bif bif c9 then decide (n14 ≥ 0) else false then bif c8 then bif decide (0 ≤ n14) && decide (n14 < 4) then bif tst ((Bld.can 7 9 z3 ∧ m4 ≤ 1073741824) ∧ SubL [AVal.ptr (Oid.hp 7) 0, AVal.int .u8 n15] [AVal.ptr (Oid.hp 7) 0, AVal.int .u8 (↑v16.toNat : Int)] ∧ stP z4 x = z0.heap) then k AExit.normal (stL 98 [0, 1, 6, 7] [AVal.ptr (Oid.hp 3) 0, AVal.int .i64 at_, AVal.ptr (Oid.hp 7) 0, AVal.int .i64 (IntKind.i64.wrap (n6 + 1))] [] [] (b7H.mk U0 U1 U2 z1 (Obj.note 116 4) O (Obj.note 94 0) (Bld.mk (AVal.ptr (Oid.hp 7) 0) (bfB 9 (l3.append l17) m18) (x.rows.append [[AVal.int .u8 (↑v16.toNat : Int)]]) m18)).heap D) else none else none else none else bif !bif n2 != 92 then n2 != 10 else false then k (AExit.panic (AVal.iface 53 (AVal.agg [AVal.int .i64 (IntKind.i64.wrap (base + i)), AVal.int .i64 33]))) z2 else bif tst ((Bld.can 7 9 z3 ∧ m4 ≤ 1073741824) ∧ SubL [AVal.ptr (Oid.hp 7) 0, AVal.int .u8 n2] [AVal.ptr (Oid.hp 7) 0, AVal.int .u8 (↑v19.toNat : Int)] ∧ stP z4 x = z0.heap) then k AExit.normal (stL 98 [0, 1, 6, 7] [AVal.ptr (Oid.hp 3) 0, AVal.int .i64 at_, AVal.ptr (Oid.hp 7) 0, AVal.int .i64 n6] [] [] (b7H.mk U0 U1 U2 z1 (Obj.note 116 4) O (Obj.note 94 0) (Bld.mk (AVal.ptr (Oid.hp 7) 0) (bfB 9 (l3.append l20) m21) (x.rows.append [[AVal.int .u8 (↑v19.toNat : Int)]]) m21)).heap D) else none else none else none else k (AExit.exit 0) z2) := by
  subst e_n0 e_c1 e_n2 e_l3 e_m4 e_c5 e_n6 e_c7 e_c8 e_c9 e_v10 e_n11 e_n12 e_n13 e_n14 e_n15 e_v16 e_l17 e_m18 e_v19 e_l20 e_m21
  kernel_rfl
def StR.ex (r : StR) (base : Int) : AExit := cond (r.e == 0) .ret (cond r.fin (.exit 0) (.panic (flt (base + r.off) r.e)))
def StR.vs (r : StR) (at_ : Nat) : Vs := [.ptr (.hp 3) 0, .int .i64 at_, cond (r.e == 0) (.str r.text) .undef, cond (r.e == 0) (.int .i64 r.upto_) .undef]
theorem strw_runs (w : WdH) (hw : WdOk w) (at_ : Nat) (ha : at_ ≤ w.s.length) : ∀ (m : Nat) (x : Bld) (i : Nat), w.s.length - i ≤ m → i ≤ w.s.length → x.can 7 9 → x.t.length ≤ i →
 LoopRuns (lturn Tryz.prog layS1 strwFH 83 3 [0,1,6,7] [] [0,1,4,5] []) 98 [0,1,6,7] [] [0,1,4,5] [] [.ptr (.hp 3) 0, .int .i64 at_, .ptr (.hp 7) 0, .int .i64 i] [] (stP w x)
  ((strM at_ (w.s.drop i) x i).ex w.base) ((strM at_ (w.s.drop i) x i).vs at_) [] (stP w (strM at_ (w.s.drop i) x i).x) := by
 obtain ⟨U0, U1, U2, s, base, a, o, O⟩ := w
 obtain ⟨h1, h2, h3⟩ := hw
 simp only at h1 h2 h3 ha ⊢
 intro m
 induction m using Nat.strongRecOn with
 | _ m ih =>
 intro x i hm hi hx hl
 by_cases hlt : i < s.length
 case neg =>
  have e : s.drop i = [] := List.drop_eq_nil_of_le (by omega)
  rw [e]
  refine .stop (by simp [strM, StR.ex]) (fun D k => ?_)
  exact (strw_step U0 U1 U2 s base a o O x at_ i D k _ rfl false (by rw [dF (by omega)]) _ rfl _ rfl _ rfl _ rfl _ rfl _ rfl _ rfl _ rfl _ rfl _ rfl _ rfl _ rfl _ rfl _ rfl _ rfl _ rfl _ rfl _ rfl _ rfl _ rfl).trans rfl
 have e2 : IntKind.i64.wrap ((i : Int) + 1) = ((i + 1 : Nat) : Int) := by rw [wrap_of (by omega) (by omega)]; omega
 have e3 : ((i + 1 : Nat) : Int) + 1 = ((i + 2 : Nat) : Int) := by omega
 have ed := drop_cons_of s i 0 hlt
 generalize hc : s.getD i 0 = c at ed
 have key := fun D k => strw_step U0 U1 U2 s base a o O x at_ i D k _ rfl true (by rw [dT (by omega)]) (c.toNat : Int) (by rw [Int.toNat_natCast, hc]) x.t rfl _ rfl true (by rw [sameV_refl]; rfl) ((i + 1 : Nat) : Int) (by rw [e2])
 by_cases hlt2 : i + 1 < s.length
 · have ed2 := drop_cons_of s (i + 1) 0 hlt2
   generalize hd : s.getD (i + 1) 0 = d at ed2
   have he : s.drop i = c :: d :: s.drop (i + 2) := by rw [ed, ed2]
   have key2 := fun D k => key D k true (by rw [dT (by omega)]) true (by rw [dT (by omega)]; rfl) (c == 92) (by rw [eqc (by decide)]; cases c == 92 <;> rfl) d (by simp only [Int.toNat_natCast, hd]; simp) _ rfl _ rfl _ rfl (escI d) rfl ((escO d).toNat : Int) rfl (escO d) (by rw [ofU8]) _ rfl _ rfl c (by rw [ofU8]) _ rfl _ rfl
   clear key
   rw [he, strM]
   simp (disch := first | omega | decide) only [dT, cond_true, Bool.true_and, Bool.true_or, eqc, nec, wrap_of, bif_and, Bool.and_self] at key2
   cases h34 : c == 34 with
   | true =>
    simp only [h34, cond_true] at key2 ⊢
    replace key2 := fun D k => (key2 D k).trans ((congrArg (fun c => cond c _ none) (tst_true ⟨hx, .refl _, by trivial⟩)).trans rfl)
    by_cases hn : x.t.length ≤ 4096
    · simp (disch := omega) only [dT, Bool.not_true, cond_false, cond_true] at key2 ⊢
      replace key2 := fun D k => (key2 D k).trans ((congrArg (fun c => cond c _ none) (tst_true ⟨⟨hx, show x.t.length ≤ 1099511627776 by omega⟩, .refl _, by trivial⟩)).trans rfl)
      exact .stop (by simp [StR.ex]) key2
    · simp (disch := omega) only [dF, Bool.not_false, cond_false, cond_true] at key2 ⊢
      exact .stop (by simp [StR.ex]) key2
   | false =>
    simp only [h34, cond_false] at key2 ⊢
    have tb : ∀ e : UInt8, tst ((Bld.can 7 9 (Bld.mk x.ad x.b x.rows x.v) ∧ x.t.length ≤ 1073741824) ∧ SubL [AVal.ptr (Oid.hp 7) 0, AVal.int .u8 e.toNat] [AVal.ptr (Oid.hp 7) 0, AVal.int .u8 e.toNat] ∧ True) = true := fun e => tst_true ⟨⟨hx, by omega⟩, .refl _, trivial⟩
    cases h92 : c == 92 && decide (escI d ≥ 0) with
    | true =>
     simp only [h92, cond_true] at key2 ⊢
     have h0 : escI d ≥ 0 := by rw [Bool.and_eq_true, decide_eq_true_eq] at h92; exact h92.2
     have h4 := escI_lt d
     simp (disch := omega) only [dT, Bool.and_self, cond_true] at key2
     replace key2 := fun D k => (key2 D k).trans ((congrArg (fun c => cond c _ none) (tb (escO d))).trans rfl)
     have ih2 := ih (m - 2) (by omega) (x.add 7 9 [escO d]) (i + 2) (by omega) (by omega) (Bld.add_can hx _) (by rw [Bld.add_t, List.length_append]; show _ + 1 ≤ _; omega)
     rw [e3] at key2
     exact .step key2 ih2
    | false =>
     simp only [h92, cond_false] at key2 ⊢
     have en : (!(!(c == 92) && !(c == 10))) = (c == 92 || c == 10) := by cases c == 92 <;> cases c == 10 <;> rfl
     simp only [en] at key2
     cases hb : c == 92 || c == 10 with
     | true =>
      simp only [hb, cond_true] at key2 ⊢
      exact .stop (by simp [StR.ex]) key2
     | false =>
      simp only [hb, cond_false] at key2 ⊢
      replace key2 := fun D k => (key2 D k).trans ((congrArg (fun c => cond c _ none) (tb c)).trans rfl)
      have ih2 := ih (m - 1) (by omega) (x.add 7 9 [c]) (i + 1) (by omega) (by omega) (Bld.add_can hx _) (by rw [Bld.add_t, List.length_append]; show _ + 1 ≤ _; omega)
      rw [ed2] at ih2
      exact .step key2 ih2
 · have he : s.drop i = [c] := by rw [ed, List.drop_eq_nil_of_le (by omega)]
   have key2 := fun D k => key D k false (by rw [dF (by omega)]) false (by rw [Bool.and_false]) false (by cases ((c.toNat : Int) == 92) <;> rfl) _ rfl _ rfl _ rfl _ rfl _ rfl _ rfl _ rfl _ rfl _ rfl c (by rw [ofU8]) _ rfl _ rfl
   clear key
   rw [he, strM]
   simp (disch := first | omega | decide) only [dT, cond_true, Bool.true_and, Bool.or_true, eqc, nec, bif_and, Bool.and_self, Bool.not_false, cond_false, Bool.false_and, wrap_of] at key2
   have tb : ∀ e : UInt8, tst ((Bld.can 7 9 (Bld.mk x.ad x.b x.rows x.v) ∧ x.t.length ≤ 1073741824) ∧ SubL [AVal.ptr (Oid.hp 7) 0, AVal.int .u8 e.toNat] [AVal.ptr (Oid.hp 7) 0, AVal.int .u8 e.toNat] ∧ True) = true := fun e => tst_true ⟨⟨hx, by omega⟩, .refl _, trivial⟩
   cases h34 : c == 34 with
   | true =>
    simp only [h34, cond_true] at key2 ⊢
    replace key2 := fun D k => (key2 D k).trans ((congrArg (fun c => cond c _ none) (tst_true ⟨hx, .refl _, by trivial⟩)).trans rfl)
    by_cases hn : x.t.length ≤ 4096
    · simp (disch := omega) only [dT, Bool.not_true, cond_false, cond_true] at key2 ⊢
      replace key2 := fun D k => (key2 D k).trans ((congrArg (fun c => cond c _ none) (tst_true ⟨⟨hx, show x.t.length ≤ 1099511627776 by omega⟩, .refl _, by trivial⟩)).trans rfl)
      exact .stop (by simp [StR.ex]) key2
    · simp (disch := omega) only [dF, Bool.not_false, cond_false, cond_true] at key2 ⊢
      exact .stop (by simp [StR.ex]) key2
   | false =>
    simp only [h34, cond_false] at key2 ⊢
    have en : (!(!(c == 92) && !(c == 10))) = (c == 92 || c == 10) := by cases c == 92 <;> cases c == 10 <;> rfl
    simp only [en] at key2
    cases hb : c == 92 || c == 10 with
    | true =>
     simp only [hb, cond_true] at key2 ⊢
     exact .stop (by simp [StR.ex]) key2
    | false =>
     simp only [hb, cond_false] at key2 ⊢
     replace key2 := fun D k => (key2 D k).trans ((congrArg (fun c => cond c _ none) (tb c)).trans rfl)
     have ih2 := ih (m - 1) (by omega) (x.add 7 9 [c]) (i + 1) (by omega) (by omega) (Bld.add_can hx _) (by rw [Bld.add_t, List.length_append]; show _ + 1 ≤ _; omega)
     rw [List.drop_eq_nil_of_le (show s.length ≤ i + 1 by omega), strM] at ih2
     exact .step key2 ih2
theorem strwSp_ok : SpOK (lturn Tryz.prog layS1 strwFH 83 3 [0,1,6,7] [] [0,1,4,5] []) 98 [0,1,6,7] [] [0,1,4,5] [] strwSp := mkL_ok fun a h => by
 obtain ⟨w, x, at_, i⟩ := a
 have key := strw_runs w h.1 at_ h.2.1 _ x i (Nat.le_refl _) h.2.2.1 h.2.2.2.1 h.2.2.2.2
 show ∃ e vs bs H, (∀ k : AExit → Vs → List Vs → Heap → Ans, cond ((strM at_ (w.s.drop i) x i).e == 0) _ (cond (strM at_ (w.s.drop i) x i).fin _ _) = k e vs bs H) ∧ _
 unfold StR.ex StR.vs at key
 cases hb : (strM at_ (w.s.drop i) x i).e == 0 with
 | true => rw [hb] at key; exact ⟨_, _, _, _, fun k => rfl, key⟩
 | false =>
  rw [hb] at key
  cases hf : (strM at_ (w.s.drop i) x i).fin with
  | true => rw [hf] at key; exact ⟨_, _, _, _, fun k => rfl, key⟩
  | false => rw [hf] at key; exact ⟨_, _, _, _, fun k => rfl, key⟩
noncomputable def layS2 : Lay := layS1.addL 83 strwFH
theorem strw_fun (U0 U1 U2 : Obj) (s : Oc) (base a : Int) (o : AVal) (O : Obj) (at_ : Int) (k : Out → Ans) : iFun Tryz.prog (layS2.hd Tryz.prog) layS2.fhs 0 83 [.ptr (.hp 3) 0, .int .i64 at_] (HwP U0 U1 U2 s base a o O) k = (
 let n0 : Int := IntKind.i64.wrap (at_ + 1);
 let m1 : Nat := n0.toNat;
 let n2 : Int := (↑at_.toNat : Int);
 let z2 := Bld.mk AVal.nilptr AVal.nilX [] 0;
 let z0 := strM at_.toNat (List.drop m1 s) z2 m1;
 let n3 : Int := z0.e;
 let z1 := WdH.mk U0 U1 U2 s base a o O;
  bif tst ((WdOk z1 ∧ at_.toNat ≤ s.length ∧ m1 ≤ s.length ∧ Bld.can 7 9 z2 ∧ 0 ≤ m1) ∧ SubTL [AVal.ptr (Oid.hp 3) 0, AVal.int .i64 at_, AVal.ptr (Oid.hp 7) 0, AVal.int .i64 n0] [AVal.ptr (Oid.hp 3) 0, AVal.int .i64 n2, AVal.ptr (Oid.hp 7) 0, AVal.int .i64 (↑m1 : Int)] ∧ ([] : List Vs) = [] ∧ [U0, U1, U2, Obj.var [AVal.str s, AVal.int .i64 base, AVal.int .i64 a, o], Obj.note 116 4, O, Obj.note 94 0, Obj.var [AVal.nilptr, AVal.nilX], Obj.note 59 2, Obj.arr 1 [] 0, Obj.note 5 0] = stP z1 z2) then bif n3 == 0 then k (Out.ret (AVal.tuple [AVal.str z0.text, AVal.int .i64 (↑z0.upto_ : Int)]) (stP z1 z0.x)) else bif z0.fin then k (Out.panic (AVal.iface 53 (AVal.agg [AVal.int .i64 (IntKind.i64.wrap (base + n2)), AVal.int .i64 33])) (stP z1 z0.x)) else k (Out.panic (flt (base + (↑z0.off : Int)) n3) (stP z1 z0.x)) else none) := by kernel_rfl
theorem layS2_ok : layS2.OK Tryz.prog := layS1_ok.loop1 (id := 3) (by kernel_rfl) (by kernel_rfl) (by kernel_rfl) strwSp_ok
structure StQ where
 e : Int
 off : Nat
 text : Oc
 upto_ : Nat
def strQ (at_ : Nat) : Oc → Oc → Nat → StQ
 | [], acc, i => ⟨33, at_, [], 0⟩
 | [c], acc, i => bif c == 34 then (bif decide (acc.length ≤ 4096) then ⟨0, 0, acc, i + 1⟩ else ⟨5, at_, [], 0⟩) else bif c == 92 || c == 10 then ⟨33, i, [], 0⟩ else ⟨33, at_, [], 0⟩
 | c :: d :: u, acc, i => bif c == 34 then (bif decide (acc.length ≤ 4096) then ⟨0, 0, acc, i + 1⟩ else ⟨5, at_, [], 0⟩) else bif c == 92 && decide (escI d ≥ 0) then strQ at_ u (acc ++ [escO d]) (i + 2) else bif c == 92 || c == 10 then ⟨33, i, [], 0⟩ else strQ at_ (d :: u) (acc ++ [c]) (i + 1)
theorem strM_Q (at_ : Nat) : ∀ (n : Nat) (t : Oc) (x : Bld) (i : Nat), t.length ≤ n → strQ at_ t x.t i = ⟨(strM at_ t x i).e, (strM at_ t x i).off, (strM at_ t x i).text, (strM at_ t x i).upto_⟩ ∧ ((strM at_ t x i).fin = true → (strM at_ t x i).e = 33 ∧ (strM at_ t x i).off = at_)
 | n, [], x, i, _ => ⟨rfl, fun _ => ⟨rfl, rfl⟩⟩
 | n, [c], x, i, _ => by
  rw [strQ, strM]
  cases c == 34 with
  | true =>
   cases decide (x.t.length ≤ 4096)
   · exact ⟨rfl, fun h => by cases h⟩
   · exact ⟨rfl, fun h => by cases h⟩
  | false =>
   cases c == 92 || c == 10
   · exact ⟨rfl, fun _ => ⟨rfl, rfl⟩⟩
   · exact ⟨rfl, fun h => by cases h⟩
 | 0, c :: d :: u, x, i, h => by simp at h
 | n + 1, c :: d :: u, x, i, h => by
  rw [strQ, strM]
  simp only [List.length_cons] at h
  cases c == 34 with
  | true =>
   cases decide (x.t.length ≤ 4096)
   · exact ⟨rfl, fun h => by cases h⟩
   · exact ⟨rfl, fun h => by cases h⟩
  | false =>
   cases c == 92 && decide (escI d ≥ 0) with
   | true =>
    have := strM_Q at_ n u (x.add 7 9 [escO d]) (i + 2) (by omega)
    rw [Bld.add_t] at this
    exact this
   | false =>
    cases c == 92 || c == 10 with
    | true => exact ⟨rfl, fun h => by cases h⟩
    | false =>
     have := strM_Q at_ n (d :: u) (x.add 7 9 [c]) (i + 1) (by simp only [List.length_cons]; omega)
     rw [Bld.add_t] at this
     exact this
theorem CallOK.shrinkP {P : Program} {f : FuncId} {xs : Vs} {H H' G : Heap} {v : AVal} (hc : CallOK P f xs H (.panic v (H' ++ G))) (hl : H.length ≤ H'.length) (hv : refsD 6 H'.length v = true) (hH : ∀ x ∈ H', refsO H'.length x = true) : CallOK P f xs H (.panic v H') := by
 intro w E cs sim hlen hr
 refine Calls.mono (hc w E cs sim hlen hr) (fun e w' hp => ?_)
 cases e with
 | returned c => exact hp.elim
 | panicked c =>
  obtain ⟨E', c0, e0, ev, sim', hrep⟩ := hp
  exact ⟨E', c0, e0, ev.shrink hl, sim'.shrink hH, hrep.shrink 6 _ _ hv⟩
 | outgrown => exact hp.elim
def WdR (x : WdH) : Prop := ∀ o ∈ x.heap, refsO 7 o = true
noncomputable def strwTold : FSp := mkF (fun xs H => (WdH.dec H, (aI xs 1).toNat)) (fun x => WdOk x.1 ∧ WdR x.1 ∧ x.2 < x.1.s.length) (fun x => [.ptr (.hp 3) 0, .int .i64 x.2]) (fun x => x.1.heap)
 (fun x k => cond ((strQ x.2 (x.1.s.drop (x.2 + 1)) [] (x.2 + 1)).e == 0) (k (.ret (.tuple [.str (strQ x.2 (x.1.s.drop (x.2 + 1)) [] (x.2 + 1)).text, .int .i64 (strQ x.2 (x.1.s.drop (x.2 + 1)) [] (x.2 + 1)).upto_]) x.1.heap))
  (k (.panic (flt (x.1.base + (strQ x.2 (x.1.s.drop (x.2 + 1)) [] (x.2 + 1)).off) (strQ x.2 (x.1.s.drop (x.2 + 1)) [] (x.2 + 1)).e) x.1.heap)))
theorem strwTold_ok : ∀ xs H k out, strwTold xs H k = some out → ∃ o, CallOK Tryz.prog 83 xs H o ∧ k o = some out := mkF_ok fun x h => by
 obtain ⟨⟨U0, U1, U2, s, base, a, o, O⟩, at_⟩ := x
 obtain ⟨hw, hR, ha⟩ := h
 have hw' := hw
 obtain ⟨h1, h2, h3⟩ := hw'
 simp only at h1 h2 h3 ha
 have e2 : IntKind.i64.wrap ((at_ : Int) + 1) = ((at_ + 1 : Nat) : Int) := by rw [wrap_of (by omega) (by omega)]; omega
 have key := fun k => strw_fun U0 U1 U2 s base a o O at_ k
 simp only [Int.toNat_natCast, e2] at key
 replace key := fun k => (key k).trans ((congrArg (fun c => cond c _ none) (tst_true ⟨⟨hw, show at_ ≤ s.length by omega, show at_ + 1 ≤ s.length by omega, Bld.new_can 7 9, Nat.zero_le _⟩, .refl _, by trivial, by trivial⟩)).trans rfl)
 obtain ⟨q1, q2⟩ := strM_Q at_ _ (s.drop (at_ + 1)) Bld.new (at_ + 1) (Nat.le_refl _)
 have q1' : strQ at_ (s.drop (at_ + 1)) [] (at_ + 1) = _ := q1
 show ∃ o, (∀ k : Out → Ans, cond ((strQ at_ (s.drop (at_ + 1)) [] (at_ + 1)).e == 0) _ _ = k o) ∧ _
 dsimp only
 rw [q1']
 simp only
 replace key : ∀ k, iFun Tryz.prog (layS2.hd Tryz.prog) layS2.fhs 0 83 [.ptr (.hp 3) 0, .int .i64 at_] (HwP U0 U1 U2 s base a o O) k = cond ((strM at_ (s.drop (at_ + 1)) Bld.new (at_ + 1)).e == 0) _ (cond (strM at_ (s.drop (at_ + 1)) Bld.new (at_ + 1)).fin _ _) := key
 cases hb : (strM at_ (s.drop (at_ + 1)) Bld.new (at_ + 1)).e == 0 with
 | true =>
  simp only [hb, cond_true] at key
  refine ⟨_, fun k => rfl, ?_⟩
  exact CallOK.shrink (H' := HwP U0 U1 U2 s base a o O) (G := [_, _, _, _]) (layS2_ok.call key) (Nat.le_refl _) (by rfl) hR
 | false =>
  simp only [hb, cond_false] at key
  refine ⟨_, fun k => rfl, ?_⟩
  cases hf : (strM at_ (s.drop (at_ + 1)) Bld.new (at_ + 1)).fin with
  | true =>
   simp only [hf, cond_true] at key
   obtain ⟨g1, g2⟩ := q2 hf
   rw [g1, g2]
   simp (disch := omega) only [wrap_of] at key
   exact CallOK.shrinkP (H' := HwP U0 U1 U2 s base a o O) (G := [_, _, _, _]) (layS2_ok.call key) (Nat.le_refl _) (by rfl) hR
  | false =>
   simp only [hf, cond_false] at key
   exact CallOK.shrinkP (H' := HwP U0 U1 U2 s base a o O) (G := [_, _, _, _]) (layS2_ok.call key) (Nat.le_refl _) (by rfl) hR
end Go.Mu
namespace Go.Mu
open Go Go.Proofs
def dgN (t : Oc) : Nat := (t.takeWhile dig).length
theorem dgN_cons (c : UInt8) (t : Oc) : dgN (c :: t) = bif dig c then dgN t + 1 else 0 := by
 unfold dgN
 rw [List.takeWhile_cons]
 cases dig c <;> simp
theorem dgN_le (t : Oc) : dgN t ≤ t.length := by
 unfold dgN
 exact (List.takeWhile_prefix dig).length_le
noncomputable def digSp : LSp := mkL (fun vs _ H => (WdH.dec H, (aI vs 1).toNat, (aI vs 2).toNat)) (fun x => WdOk x.1 ∧ x.2.1 ≤ x.1.s.length ∧ x.2.2 ≤ x.1.s.length) (fun x => [.ptr (.hp 3) 0, .int .i64 x.2.1, .int .i64 x.2.2]) (fun _ => []) (fun x => x.1.heap) (fun x k => k (.exit 0) [.ptr (.hp 3) 0, .int .i64 x.2.1, .int .i64 ((x.2.2 + dgN (x.1.s.drop x.2.2) : Nat) : Int)] [] x.1.heap)
noncomputable def digFH : FH := .of [(2, loopSpec 67 [0,1,5] [] [0,1,5] [] digSp)]
noncomputable def layG1 : Lay := layX3.addF 95 numTold
theorem layG1_ok : layG1.OK Tryz.prog := layX3_ok.addF numTold_ok
theorem dig_step (U0 U1 U2 : Obj) (s : Oc) (base a : Int) (o : AVal) (O : Obj) (at_ i : Int) (D : Dfs) (k : Kont) : lturn Tryz.prog layG1 digFH 82 2 [0,1,5] [] [0,1,5] [] (stL 67 [0,1,5] [.ptr (.hp 3) 0, .int .i64 at_, .int .i64 i] [] [] (HwP U0 U1 U2 s base a o O) D) k = (
 let c0 : Bool := decide (i < (↑s.length : Int));
 let c1 : Bool := decide (0 ≤ i) && c0;
 let n2 : Int := (↑(s.getD i.toNat 0).toNat : Int);
 let c3 : Bool := bif c0 then decide (n2 ≥ 48) else false;
  bif c1 || !c0 then bif c1 || !c3 then bif bif c3 then decide (n2 ≤ 57) else false then k AExit.normal (stL 67 [0, 1, 5] [AVal.ptr (Oid.hp 3) 0, AVal.int .i64 at_, AVal.int .i64 (IntKind.i64.wrap (i + 1))] [] [] (HwP U0 U1 U2 s base a o O) D) else k (AExit.exit 0) (stL 67 [0, 1, 5] [AVal.ptr (Oid.hp 3) 0, AVal.int .i64 at_, AVal.int .i64 i] [] [] (HwP U0 U1 U2 s base a o O) D) else none else none) := by kernel_rfl
theorem dig_runs (x : WdH) (hx : WdOk x) (at_ : Nat) : ∀ (m i : Nat), x.s.length - i ≤ m → i ≤ x.s.length → LoopRuns (lturn Tryz.prog layG1 digFH 82 2 [0,1,5] [] [0,1,5] []) 67 [0,1,5] [] [0,1,5] [] [.ptr (.hp 3) 0, .int .i64 at_, .int .i64 i] [] x.heap (.exit 0) [.ptr (.hp 3) 0, .int .i64 at_, .int .i64 ((i + dgN (x.s.drop i) : Nat) : Int)] [] x.heap := by
 obtain ⟨U0, U1, U2, s, base, a, o, O⟩ := x
 obtain ⟨h1, h2, h3⟩ := hx
 simp only at h1 h2 h3 ⊢
 intro m
 induction m with
 | zero =>
  intro i hm hi
  have e : s.drop i = [] := List.drop_eq_nil_of_le (by omega)
  rw [e]
  refine .stop (by simp) (fun D k => ?_)
  rw [dig_step]
  simp (disch := omega) only [dF, cond_false, Bool.and_false, Bool.false_and, Bool.not_false, Bool.or_true, cond_true]
  rfl
 | succ m ih =>
  intro i hm hi
  by_cases hlt : i < s.length
  · have key := fun D k => dig_step U0 U1 U2 s base a o O at_ i D k
    have e2 : (i : Int) + 1 = ((i + 1 : Nat) : Int) := by omega
    have ec : ∀ c : UInt8, (decide (48 ≤ c.toNat) && decide (c.toNat ≤ 57)) = dig c := fun _ => rfl
    simp (disch := first | omega | decide) only [Int.toNat_natCast, dT, cond_true, Bool.true_and, Bool.true_or, Bool.and_true, Bool.and_self, gec, lec, bif_or, bif_and, ec, wrap_of, e2] at key
    have ih2 := ih (i + 1) (by omega) (by omega)
    rw [drop_cons_of s i 0 hlt, dgN_cons]
    cases hc : dig (s.getD i 0) with
    | true =>
     simp only [hc, cond_true] at key
     rw [show i + 1 + dgN (s.drop (i + 1)) = i + (dgN (s.drop (i + 1)) + 1) by omega] at ih2
     exact .step key ih2
    | false =>
     simp only [hc, cond_false] at key
     exact .stop (by simp) key
  · have e : s.drop i = [] := List.drop_eq_nil_of_le (by omega)
    rw [e]
    refine .stop (by simp) (fun D k => ?_)
    rw [dig_step]
    simp (disch := omega) only [dF, cond_false, Bool.and_false, Bool.false_and, Bool.not_false, Bool.or_true, cond_true]
    rfl
theorem digSp_ok : SpOK (lturn Tryz.prog layG1 digFH 82 2 [0,1,5] [] [0,1,5] []) 67 [0,1,5] [] [0,1,5] [] digSp := mkL_ok fun a h => ⟨_, _, _, _, fun k => rfl, dig_runs a.1 h.1 a.2.1 _ a.2.2 (Nat.le_refl _) h.2.2⟩
noncomputable def layG2 : Lay := layG1.addL 82 digFH
theorem layG2_ok : layG2.OK Tryz.prog := layG1_ok.loop1 (id := 2) (by kernel_rfl) (by kernel_rfl) (by kernel_rfl) digSp_ok
theorem digits_fun (U0 U1 U2 : Obj) (s : Oc) (base a : Int) (o : AVal) (O : Obj) (at_ : Int) (k : Out → Ans) (n0 : Int) (e_n0 : n0 = (IntKind.i64.wrap (at_ + 1)))
 (m1 : Nat) (e_m1 : m1 = (n0.toNat))
 (n2 : Int) (e_n2 : n2 = ((↑at_.toNat : Int)))
 (n3 : Int) (e_n3 : n3 = ((↑(m1 + dgN (List.drop m1 s)) : Int)))
 (l4 : Oc) (e_l4 : l4 = (List.drop n2.toNat (List.take n3.toNat s)))
 (n5 : Int) (e_n5 : n5 = ((numM l4).snd)) : iFun Tryz.prog (layG2.hd Tryz.prog) layG2.fhs 0 82 [.ptr (.hp 3) 0, .int .i64 at_] (HwP U0 U1 U2 s base a o O) k = (
 let z0 := WdH.mk U0 U1 U2 s base a o O;
  bif tst ((WdOk z0 ∧ at_.toNat ≤ s.length ∧ m1 ≤ s.length) ∧ SubTL [AVal.ptr (Oid.hp 3) 0, AVal.int .i64 at_, AVal.int .i64 n0] [AVal.ptr (Oid.hp 3) 0, AVal.int .i64 n2, AVal.int .i64 (↑m1 : Int)] ∧ ([] : List Vs) = [] ∧ HwP U0 U1 U2 s base a o O = z0.heap) then bif decide (n2 ≤ n3) && decide (n3 ≤ (↑s.length : Int)) then bif decide (l4.length ≤ 1099511627776) then bif !n5 != 4 then k (Out.panic (AVal.iface 53 (AVal.agg [AVal.int .i64 (IntKind.i64.wrap (base + n2)), AVal.int .i64 4])) z0.heap) else bif !n5 == 0 then k (Out.panic (AVal.iface 53 (AVal.agg [AVal.int .i64 (IntKind.i64.wrap (base + n2)), AVal.int .i64 33])) z0.heap) else k (Out.ret (AVal.int .i64 n3) z0.heap) else none else none else none) := by
  subst e_n0 e_m1 e_n2 e_n3 e_l4 e_n5
  kernel_rfl
def digM (t : Oc) : Int × Nat :=
 (bif (numM (t.take (1 + dgN (t.drop 1)))).2 == 4 then 4 else bif (numM (t.take (1 + dgN (t.drop 1)))).2 == 0 then 0 else 33, 1 + dgN (t.drop 1))
theorem digits_call (x : WdH) (at_ : Nat) (hx : WdOk x) (ha : at_ < x.s.length) (k : Out → Ans) : iFun Tryz.prog (layG2.hd Tryz.prog) layG2.fhs 0 82 [.ptr (.hp 3) 0, .int .i64 at_] x.heap k =
 cond ((digM (x.s.drop at_)).1 == 0) (k (.ret (.int .i64 ((at_ + (digM (x.s.drop at_)).2 : Nat) : Int)) x.heap)) (k (.panic (flt (x.base + at_) (digM (x.s.drop at_)).1) x.heap)) := by
 have hx' := hx
 obtain ⟨U0, U1, U2, s, base, a, o, O⟩ := x
 obtain ⟨h1, h2, h3⟩ := hx'
 simp only at h1 h2 h3 ha ⊢
 have hr := dgN_le (s.drop (at_ + 1))
 rw [List.length_drop] at hr
 have ed : (s.drop at_).drop 1 = s.drop (at_ + 1) := by rw [List.drop_drop]
 unfold digM
 rw [ed]
 have et : (s.drop at_).take (1 + dgN (s.drop (at_ + 1))) = (s.take (at_ + 1 + dgN (s.drop (at_ + 1)))).drop at_ := by
  rw [List.drop_take]
  congr 1
  omega
 rw [et]
 have e2 : IntKind.i64.wrap ((at_ : Int) + 1) = ((at_ + 1 : Nat) : Int) := by rw [wrap_of (by omega) (by omega)]; omega
 rw [digits_fun U0 U1 U2 s base a o O at_ k ((at_ + 1 : Nat) : Int) e2.symm (at_ + 1) (by omega) (at_ : Int) (by omega) _ rfl ((s.take (at_ + 1 + dgN (s.drop (at_ + 1)))).drop at_) (by rw [Int.toNat_natCast, Int.toNat_natCast]) _ rfl]
 simp only [Int.toNat_natCast]
 refine (congrArg (fun c => cond c _ none) (tst_true ⟨⟨hx, show at_ ≤ s.length by omega, show at_ + 1 ≤ s.length by omega⟩, .refl _, by trivial, by trivial⟩)).trans ?_
 have hl : ((s.take (at_ + 1 + dgN (s.drop (at_ + 1)))).drop at_).length ≤ s.length := by simp; omega
 generalize (s.take (at_ + 1 + dgN (s.drop (at_ + 1)))).drop at_ = u at *
 simp (disch := omega) only [cond_true, dT, Bool.and_self, wrap_of]
 generalize (numM u).2 = n
 rw [show at_ + 1 + dgN (s.drop (at_ + 1)) = at_ + (1 + dgN (s.drop (at_ + 1))) by omega]
 cases h4 : n == 4 with
 | true => simp only [bne, h4, cond_true]; rfl
 | false =>
  cases h0 : n == 0 with
  | true => simp only [bne, h4, cond_false, cond_true, Bool.not_true, Bool.not_false]; rfl
  | false => simp only [bne, h4, cond_false, cond_true, Bool.not_true, Bool.not_false]; rfl
structure OneR where
 e : Int
 off : Nat
 kind : Int
 text : Oc
 len : Nat
def cutR (k : Int) (t : Oc) (r : Int × Nat) : OneR := ⟨r.1, 0, k, t.take r.2, r.2⟩
def oneM (t : Oc) : OneR :=
 bif ltr (t.getD 0 0) || t.getD 0 0 == 95 then cutR 1 t (idE t, runN t)
 else bif t.getD 0 0 == 46 then cutR 2 t (dotM t)
 else bif t.getD 0 0 == 36 then cutR 3 t (dollarM t)
 else bif t.getD 0 0 == 45 || dig (t.getD 0 0) then cutR 4 t (digM t)
 else bif t.getD 0 0 == 34 then ⟨(strQ 0 (t.drop 1) [] 1).e, (strQ 0 (t.drop 1) [] 1).off, 5, (strQ 0 (t.drop 1) [] 1).text, (strQ 0 (t.drop 1) [] 1).upto_⟩
 else bif [58, 61].isPrefixOf t then cutR 6 t (0, 2)
 else cutR 6 t (bif t.getD 0 0 == 124 then 0 else 33, 1)
noncomputable def layG3 : Lay := (((((layD4.addF 80 (cutTold' dotM)).addF 81 (cutTold' dollarM)).addF 82 (cutTold' digM)).addF 83 strwTold))
theorem layG3_ok : layG3.OK Tryz.prog := ((((layD4_ok.addF (cutTold'_ok layD6_ok dot_call)).addF (cutTold'_ok layD6_ok dollar_call)).addF (cutTold'_ok layG2_ok digits_call)).addF strwTold_ok)
theorem one_fun (U0 U1 U2 : Obj) (s : Oc) (base a : Int) (o : AVal) (O : Obj) (k : Out → Ans) (c0 : Bool) (e_c0 : c0 = (decide (0 ≤ a)))
 (n1 : Int) (e_n1 : n1 = ((↑s.length : Int)))
 (n2 : Int) (e_n2 : n2 = ((↑(s.getD a.toNat 0).toNat : Int)))
 (n3 : Int) (e_n3 : n3 = ((↑a.toNat : Int)))
 (l4 : Oc) (e_l4 : l4 = (List.drop a.toNat s))
 (n5 : Int) (e_n5 : n5 = (idE l4))
 (n6 : Int) (e_n6 : n6 = ((↑(a.toNat + runN l4) : Int)))
 (n7 : Int) (e_n7 : n7 = (base + n3))
 (c8 : Bool) (e_c8 : c8 = (tst
  ((WdOk (WdH.mk U0 U1 U2 s base a o O) ∧ a.toNat < s.length) ∧
    SubL [AVal.ptr (Oid.hp 3) 0, AVal.int .i64 a] [AVal.ptr (Oid.hp 3) 0, AVal.int .i64 n3] ∧
     HwP U0 U1 U2 s base a o O = (WdH.mk U0 U1 U2 s base a o O).heap)))
 (n9 : Int) (e_n9 : n9 = ((dotM l4).fst))
 (n10 : Int) (e_n10 : n10 = ((↑(a.toNat + (dotM l4).snd) : Int)))
 (n11 : Int) (e_n11 : n11 = ((dollarM l4).fst))
 (n12 : Int) (e_n12 : n12 = ((↑(a.toNat + (dollarM l4).snd) : Int)))
 (m13 : Nat) (e_m13 : m13 = (1 + dgN (List.drop 1 l4)))
 (n14 : Int) (e_n14 : n14 = ((numM (List.take m13 l4)).snd))
 (n15 : Int) (e_n15 : n15 = (bif n14 == 4 then 4 else bif n14 == 0 then 0 else 33))
 (n16 : Int) (e_n16 : n16 = ((↑(a.toNat + m13) : Int)))
 (m17 : Nat) (e_m17 : m17 = (a.toNat + 1))
 (n18 : Int) (e_n18 : n18 = ((strQ a.toNat (List.drop m17 s) [] m17).e))
 (n19 : Int) (e_n19 : n19 = (IntKind.i64.wrap (a + 2)))
 (n20 : Int) (e_n20 : n20 = (IntKind.i64.wrap (a + 1))) : iFun Tryz.prog (layG3.hd Tryz.prog) layG3.fhs 0 62 [.ptr (.hp 3) 0] (HwP U0 U1 U2 s base a o O) k = (
 let z0 := WdH.mk U0 U1 U2 s base a o O;
 let z1 := IntKind.i64.wrap (base + a);
 let z2 := strQ a.toNat (List.drop m17 s) [] m17;
  bif c0 && decide (a < n1) then bif bif ltrI n2 then true else n2 == 95 then bif tst ((WdOk z0 ∧ a.toNat ≤ s.length ∧ a.toNat ≤ s.length) ∧ SubL [AVal.ptr (Oid.hp 3) 0, AVal.int .i64 a, AVal.int .i64 a] [AVal.ptr (Oid.hp 3) 0, AVal.int .i64 n3, AVal.int .i64 n3] ∧ HwP U0 U1 U2 s base a o O = z0.heap) then bif n5 == 0 then bif c0 && decide (a ≤ n6) && decide (n6 ≤ n1) then k (Out.ret (AVal.agg [AVal.int .i64 1, AVal.str (List.drop a.toNat (List.take n6.toNat s)), AVal.int .i64 z1]) [U0, U1, U2, Obj.var [AVal.str s, AVal.int .i64 base, AVal.int .i64 n6, o], Obj.note 116 4, O, Obj.note 94 0]) else none else k (Out.panic (flt n7 n5) z0.heap) else none else bif n2 == 46 then bif c8 then bif n9 == 0 then bif c0 && decide (a ≤ n10) && decide (n10 ≤ n1) then k (Out.ret (AVal.agg [AVal.int .i64 2, AVal.str (List.drop a.toNat (List.take n10.toNat s)), AVal.int .i64 z1]) [U0, U1, U2, Obj.var [AVal.str s, AVal.int .i64 base, AVal.int .i64 n10, o], Obj.note 116 4, O, Obj.note 94 0]) else none else k (Out.panic (flt n7 n9) z0.heap) else none else bif n2 == 36 then bif c8 then bif n11 == 0 then bif c0 && decide (a ≤ n12) && decide (n12 ≤ n1) then k (Out.ret (AVal.agg [AVal.int .i64 3, AVal.str (List.drop a.toNat (List.take n12.toNat s)), AVal.int .i64 z1]) [U0, U1, U2, Obj.var [AVal.str s, AVal.int .i64 base, AVal.int .i64 n12, o], Obj.note 116 4, O, Obj.note 94 0]) else none else k (Out.panic (flt n7 n11) z0.heap) else none else bif bif n2 == 45 then true else bif decide (n2 ≥ 48) then decide (n2 ≤ 57) else false then bif c8 then bif n15 == 0 then bif c0 && decide (a ≤ n16) && decide (n16 ≤ n1) then k (Out.ret (AVal.agg [AVal.int .i64 4, AVal.str (List.drop a.toNat (List.take n16.toNat s)), AVal.int .i64 z1]) [U0, U1, U2, Obj.var [AVal.str s, AVal.int .i64 base, AVal.int .i64 n16, o], Obj.note 116 4, O, Obj.note 94 0]) else none else k (Out.panic (flt n7 n15) z0.heap) else none else bif n2 == 34 then bif tst ((WdOk z0 ∧ WdR z0 ∧ a.toNat < s.length) ∧ SubL [AVal.ptr (Oid.hp 3) 0, AVal.int .i64 a] [AVal.ptr (Oid.hp 3) 0, AVal.int .i64 n3] ∧ HwP U0 U1 U2 s base a o O = z0.heap) then bif n18 == 0 then k (Out.ret (AVal.agg [AVal.int .i64 5, AVal.str z2.text, AVal.int .i64 z1]) [U0, U1, U2, Obj.var [AVal.str s, AVal.int .i64 base, AVal.int .i64 (↑z2.upto_ : Int), o], Obj.note 116 4, O, Obj.note 94 0]) else k (Out.panic (flt (base + (↑z2.off : Int)) n18) z0.heap) else none else bif c0 && decide (a ≤ n1) && decide (n1 ≤ n1) then bif [58, 61].isPrefixOf (List.drop a.toNat (List.take n1.toNat s)) then bif c0 && decide (a ≤ n19) && decide (n19 ≤ n1) then k (Out.ret (AVal.agg [AVal.int .i64 6, AVal.str (List.drop a.toNat (List.take n19.toNat s)), AVal.int .i64 z1]) [U0, U1, U2, Obj.var [AVal.str s, AVal.int .i64 base, AVal.int .i64 n19, o], Obj.note 116 4, O, Obj.note 94 0]) else none else bif !n2 == 124 then k (Out.panic (AVal.iface 53 (AVal.agg [AVal.int .i64 z1, AVal.int .i64 33])) (HwP U0 U1 U2 s base a o O)) else bif c0 && decide (a ≤ n20) && decide (n20 ≤ n1) then k (Out.ret (AVal.agg [AVal.int .i64 6, AVal.str (List.drop a.toNat (List.take n20.toNat s)), AVal.int .i64 z1]) [U0, U1, U2, Obj.var [AVal.str s, AVal.int .i64 base, AVal.int .i64 n20, o], Obj.note 116 4, O, Obj.note 94 0]) else none else none else none) := by
  subst e_c0 e_n1 e_n2 e_n3 e_l4 e_n5 e_n6 e_n7 e_c8 e_n9 e_n10 e_n11 e_n12 e_m13 e_n14 e_n15 e_n16 e_m17 e_n18 e_n19 e_n20
  kernel_rfl
theorem strQ_shift (b : Nat) : ∀ (n : Nat) (t acc : Oc) (i : Nat), t.length ≤ n → (strQ b t acc (b + i)).e = (strQ 0 t acc i).e ∧ (strQ b t acc (b + i)).text = (strQ 0 t acc i).text ∧ ((strQ 0 t acc i).e ≠ 0 → (strQ b t acc (b + i)).off = b + (strQ 0 t acc i).off) ∧ ((strQ 0 t acc i).e = 0 → (strQ b t acc (b + i)).upto_ = b + (strQ 0 t acc i).upto_ ∧ (strQ 0 t acc i).upto_ ≤ i + t.length)
 | n, [], acc, i, _ => ⟨rfl, rfl, fun _ => rfl, fun h => by cases h⟩
 | n, [c], acc, i, _ => by
  rw [strQ, strQ]
  cases c == 34 with
  | true =>
   cases decide (acc.length ≤ 4096) with
   | false => exact ⟨rfl, rfl, fun _ => rfl, fun h => by cases h⟩
   | true => exact ⟨rfl, rfl, fun h => absurd rfl h, fun _ => ⟨rfl, Nat.le_refl _⟩⟩
  | false =>
   cases c == 92 || c == 10
   · exact ⟨rfl, rfl, fun _ => rfl, fun h => by cases h⟩
   · exact ⟨rfl, rfl, fun _ => rfl, fun h => by cases h⟩
 | 0, c :: d :: u, acc, i, h => by simp at h
 | n + 1, c :: d :: u, acc, i, h => by
  rw [strQ, strQ]
  simp only [List.length_cons] at h ⊢
  cases c == 34 with
  | true =>
   cases decide (acc.length ≤ 4096) with
   | false => exact ⟨rfl, rfl, fun _ => rfl, fun h => by cases h⟩
   | true => exact ⟨rfl, rfl, fun h => absurd rfl h, fun _ => ⟨rfl, by simp only [cond_true]; omega⟩⟩
  | false =>
   cases c == 92 && decide (escI d ≥ 0) with
   | true =>
    have := strQ_shift b n u (acc ++ [escO d]) (i + 2) (by omega)
    simp only [cond_true, cond_false]
    rw [← Nat.add_assoc] at this
    exact ⟨this.1, this.2.1, this.2.2.1, fun h => ⟨(this.2.2.2 h).1, by have := (this.2.2.2 h).2; omega⟩⟩
   | false =>
    cases c == 92 || c == 10 with
    | true => exact ⟨rfl, rfl, fun _ => rfl, fun h => by cases h⟩
    | false =>
     have := strQ_shift b n (d :: u) (acc ++ [c]) (i + 1) (by simp only [List.length_cons]; omega)
     simp only [cond_true, cond_false]
     rw [← Nat.add_assoc] at this
     simp only [List.length_cons] at this
     exact ⟨this.1, this.2.1, this.2.2.1, fun h => ⟨(this.2.2.2 h).1, by have := (this.2.2.2 h).2; omega⟩⟩
theorem dotM_le {t : Oc} (h : 0 < t.length) : (dotM t).2 ≤ t.length := by
 unfold dotM
 cases hd1 t
 · exact h
 · exact dotsM_le _ _
theorem dollarM_le {t : Oc} (h : 0 < t.length) : (dollarM t).2 ≤ t.length := by
 unfold dollarM
 have hr := runN_le (t.drop 1)
 rw [List.length_drop] at hr
 cases hd1 t with
 | false =>
  have := dotsM_le t.length (t.drop 1)
  rw [List.length_drop] at this
  simp only [cond_false]; omega
 | true =>
  cases idE (t.drop 1) == 0 with
  | false => exact Nat.zero_le _
  | true =>
   have := dotsM_le t.length (t.drop (1 + runN (t.drop 1)))
   rw [List.length_drop] at this
   simp only [cond_true]; omega
theorem digM_le {t : Oc} (h : 0 < t.length) : (digM t).2 ≤ t.length := by
 unfold digM
 have hr := dgN_le (t.drop 1)
 rw [List.length_drop] at hr
 simp only; omega
theorem pre_two {s : Oc} (h : [58, 61].isPrefixOf s = true) : 2 ≤ s.length := pre_len h
theorem cut_eq (s : Oc) (p n : Nat) : (s.take (p + n)).drop p = (s.drop p).take n := by
 rw [List.drop_take]; congr 1; omega
theorem one_call (x : WdH) (p : Nat) (hp : x.a = p) (hx : WdOk x) (hR : WdR x) (ha : p < x.s.length) (k : Out → Ans) : iFun Tryz.prog (layG3.hd Tryz.prog) layG3.fhs 0 62 [.ptr (.hp 3) 0] x.heap k =
 cond ((oneM (x.s.drop p)).e == 0) (k (.ret (.agg [.int .i64 (oneM (x.s.drop p)).kind, .str (oneM (x.s.drop p)).text, .int .i64 (x.base + p)]) ({ x with a := ((p + (oneM (x.s.drop p)).len : Nat) : Int) } : WdH).heap))
  (k (.panic (flt (x.base + ((p + (oneM (x.s.drop p)).off : Nat) : Int)) (oneM (x.s.drop p)).e) x.heap)) := by
 have hx' := hx
 obtain ⟨U0, U1, U2, s, base, a, o, O⟩ := x
 obtain ⟨h1, h2, h3⟩ := hx'
 simp only at h1 h2 h3 ha hp ⊢
 subst hp
 obtain ⟨c, hc⟩ : ∃ c, c = s.getD p 0 := ⟨_, rfl⟩
 have htl : (s.drop p).length = s.length - p := by simp
 have htp : 0 < (s.drop p).length := by omega
 have hg : (s.drop p).getD 0 0 = c := by rw [List.getD_drop, hc]; rfl
 rw [one_fun U0 U1 U2 s base p o O k true (by rw [dT (by omega)]) _ rfl (c.toNat : Int) (by rw [Int.toNat_natCast, hc]) (p : Int) (by rw [Int.toNat_natCast]) (s.drop p) (by rw [Int.toNat_natCast]) _ rfl ((p + runN (s.drop p) : Nat) : Int) (by rw [Int.toNat_natCast])
  _ rfl true (tst_true ⟨⟨hx, by rw [Int.toNat_natCast]; exact ha⟩, .refl _, rfl⟩).symm _ rfl ((p + (dotM (s.drop p)).2 : Nat) : Int) (by rw [Int.toNat_natCast]) _ rfl ((p + (dollarM (s.drop p)).2 : Nat) : Int) (by rw [Int.toNat_natCast]) _ rfl _ rfl (digM (s.drop p)).1 rfl ((p + (digM (s.drop p)).2 : Nat) : Int) (by rw [Int.toNat_natCast]; rfl)
  (p + 1) (by rw [Int.toNat_natCast]) (strQ p (s.drop (p + 1)) [] (p + 1)).e (by rw [Int.toNat_natCast]) ((p + 2 : Nat) : Int) (by rw [wrap_of (by omega) (by omega)]; omega) ((p + 1 : Nat) : Int) (by rw [wrap_of (by omega) (by omega)]; omega)]
 simp (disch := first | omega | decide) only [Int.toNat_natCast, dT, Bool.true_and, cond_true, ltrI_eq, eqc, gec, lec, bif_or, bif_and, wrap_of, List.take_length]
 unfold oneM
 rw [hg]
 have cutG : ∀ (kk : Int) (r : Int × Nat) (X : Option Out), r.2 ≤ (s.drop p).length →
  (bif r.1 == 0 then (bif decide (((p + r.2 : Nat) : Int) ≤ (s.length : Int)) then k (.ret (.agg [.int .i64 kk, .str ((s.take (p + r.2)).drop p), .int .i64 (base + p)]) [U0, U1, U2, .var [.str s, .int .i64 base, .int .i64 ((p + r.2 : Nat) : Int), o], .note wsT 4, O, .note wdT 0]) else none)
   else k (.panic (flt (base + p) r.1) (WdH.mk U0 U1 U2 s base p o O).heap)) =
  cond ((cutR kk (s.drop p) r).e == 0) (k (.ret (.agg [.int .i64 (cutR kk (s.drop p) r).kind, .str (cutR kk (s.drop p) r).text, .int .i64 (base + p)]) (WdH.mk U0 U1 U2 s base ((p + (cutR kk (s.drop p) r).len : Nat) : Int) o O).heap)) (k (.panic (flt (base + ((p + (cutR kk (s.drop p) r).off : Nat) : Int)) (cutR kk (s.drop p) r).e) (WdH.mk U0 U1 U2 s base p o O).heap)) := by
  intro kk r X hr
  unfold cutR
  simp only
  rw [dT (show ((p + r.2 : Nat) : Int) ≤ (s.length : Int) by omega), cut_eq]
  rfl
 cases b1 : ltr c || c == 95 with
 | true =>
  simp only [cond_true]
  refine (congrArg (fun c => cond c _ none) (tst_true ⟨⟨hx, show p ≤ s.length by omega, by omega⟩, .refl _, by trivial⟩)).trans ?_
  exact cutG 1 (idE (s.drop p), runN (s.drop p)) none (runN_le _)
 | false =>
  simp only [cond_false]
  cases b2 : c == 46 with
  | true => simp only [cond_true]; exact cutG 2 (dotM (s.drop p)) none (dotM_le htp)
  | false =>
   simp only [cond_false]
   cases b3 : c == 36 with
   | true => simp only [cond_true]; exact cutG 3 (dollarM (s.drop p)) none (dollarM_le htp)
   | false =>
    simp only [cond_false]
    have ec : (c == 45 || (decide (48 ≤ c.toNat) && decide (c.toNat ≤ 57))) = (c == 45 || dig c) := rfl
    rw [ec]
    cases b4 : c == 45 || dig c with
    | true => simp only [cond_true]; exact cutG 4 (digM (s.drop p)) none (digM_le htp)
    | false =>
     simp only [cond_false]
     cases b5 : c == 34 with
     | true =>
      simp only [cond_true]
      refine (congrArg (fun c => cond c _ none) (tst_true ⟨⟨hx, hR, ha⟩, .refl _, by trivial⟩)).trans ?_
      simp only [cond_true]
      obtain ⟨q1, q2, q3, q4⟩ := strQ_shift p _ (s.drop (p + 1)) [] 1 (Nat.le_refl _)
      have ed : (s.drop p).drop 1 = s.drop (p + 1) := by rw [List.drop_drop]
      rw [ed, q1, q2]
      cases he : (strQ 0 (s.drop (p + 1)) [] 1).e == 0 with
      | true =>
       rw [(q4 (by simpa using he)).1]
       rfl
      | false =>
       rw [q3 (by simpa using he)]
       rfl
     | false =>
      simp only [cond_false]
      cases b6 : [58, 61].isPrefixOf (s.drop p) with
      | true =>
       simp only [cond_true]
       have h2' := pre_two b6
       exact cutG 6 (0, 2) none h2'
      | false =>
       simp only [cond_false]
       cases b7 : c == 124 with
       | true => simp only [cond_true, Bool.not_true, cond_false]; have := cutG 6 (0, 1) none htp; rw [dT (show ((p + (0, 1).2 : Nat) : Int) ≤ (s.length : Int) by simp only; omega)] at this; exact this
       | false => rfl
end Go.Mu
namespace Go.Mu
open Go Go.Proofs
section
variable {P : Program}
theorem Evo.widen {X : Nat → Prop} {w w' : World} {E E' : Env} {H H' : Heap} (ev : Evo No w E H w' E' H') : Evo X w E H w' E' H' :=
 ⟨ev.size, fun b hb _ hl => ev.kept b hb (fun h => h) hl, ev.immKept, ev.immNew, ev.var, ev.arr, ev.phi, ev.len, ev.tape, ev.os, ev.output⟩
theorem CodeOK.relink {c : Code} {st st' : St} {e : AExit} {i n j : Nat} (h : CodeOK P c { st with H := relAt i n j st.H } e st') : CodeOK P c st e st' := by
 intro w a E β ci
 unfold relAt at h
 split at h
 · rename_i h1 h2
   split at h
   · rename_i x h3
     rw [Bool.cond_eq_ite] at h
     split at h
     · rename_i h4
       obtain ⟨ev, sim⟩ := Mu.relink ci.fs.sim h1 h3 h4 h2
       exact wp_mono (h w a _ β (ci.drop ev sim)) (fun x a' w' hx => hx.trans ev.widen (fun t b hb => .inl hb))
     · exact h w a E β ci
   · exact h w a E β ci
 · exact h w a E β ci
noncomputable def loopSpecR (r : Nat × Nat × Nat) (n : Nat) (l m lx mx : List Nat) (sp : LSp) (st : St) (k : Kont) : Ans := loopSpec n l m lx mx sp { st with H := relAt r.1 r.2.1 r.2.2 st.H } k
theorem LoopTold.link {d : Code} {r : Nat × Nat × Nat} {n : Nat} {l m lx mx : List Nat} {sp : LSp} (h : LoopTold P d (loopSpec n l m lx mx sp)) : LoopTold P d (loopSpecR r n l m lx mx sp) := by
 intro st k out hi
 obtain ⟨e, st', h1, h2⟩ := h _ k out hi
 exact ⟨e, st', h1.relink, h2⟩
theorem Lay.OK.loop1R {L : Lay} (h : L.OK P) {fh : FH} {f id n : Nat} {l m lx mx : List Nat} {sp : LSp} {r : Nat × Nat × Nat} (e1 : loopsIn (codeOf P f) = [loopAt id (codeOf P f)]) (e2 : loopsIn (loopAt id (codeOf P f)) = [])
 (e3 : fh.loops (firstRegion (loopAt id (codeOf P f))) = some (loopSpecR r n l m lx mx sp)) (hs : SpOK (lturn P L fh f id l m lx mx) n l m lx mx sp) : (L.addL f fh).OK P := by
 refine h.addL (LOk.of _ (fun d hd sp' hsp => ?_))
 rw [e1, List.mem_singleton] at hd
 subst hd
 rw [e3, sJ] at hsp
 subst hsp
 exact (h.told (LOk.of _ (fun d hd => by rw [e2] at hd; cases hd)) hs).link
end
noncomputable def oneTold : FSp := mkF (fun xs H => WdH.dec H) (fun x => WdOk x ∧ WdR x ∧ 0 ≤ x.a ∧ x.a < x.s.length) (fun x => [.ptr (.hp 3) 0]) (fun x => x.heap)
 (fun x k => cond ((oneM (x.s.drop x.a.toNat)).e == 0) (k (.ret (.agg [.int .i64 (oneM (x.s.drop x.a.toNat)).kind, .str (oneM (x.s.drop x.a.toNat)).text, .int .i64 (x.base + (x.a.toNat : Int))]) ({ x with a := ((x.a.toNat + (oneM (x.s.drop x.a.toNat)).len : Nat) : Int) } : WdH).heap))
  (k (.panic (flt (x.base + ((x.a.toNat + (oneM (x.s.drop x.a.toNat)).off : Nat) : Int)) (oneM (x.s.drop x.a.toNat)).e) x.heap)))
theorem oneTold_ok : ∀ xs H k out, oneTold xs H k = some out → ∃ o, CallOK Tryz.prog 62 xs H o ∧ k o = some out := mkF_ok fun x h => by
 obtain ⟨h1, h2, h3, h4⟩ := h
 have key := one_call x x.a.toNat (by omega) h1 h2 (by omega)
 show ∃ o, (∀ k : Out → Ans, cond ((oneM (x.s.drop x.a.toNat)).e == 0) _ _ = k o) ∧ _
 cases hb : (oneM (x.s.drop x.a.toNat)).e == 0 with
 | true => simp only [hb, cond_true] at key; exact ⟨_, fun k => rfl, layG3_ok.call key⟩
 | false => simp only [hb, cond_false] at key; exact ⟨_, fun k => rfl, layG3_ok.call key⟩
noncomputable def layV1 : Lay := layX3.addF 62 oneTold
theorem layV1_ok : layV1.OK Tryz.prog := layX3_ok.addF oneTold_ok
abbrev wdV (s : Oc) (at_ : Int) : Vs := [.str s, .int .i64 at_, .ptr (.hp 0) 0, .ptr (.hp 1) 0, .ptr (.hp 2) 0, .ptr (.hp 3) 0]
abbrev wdV' (at_ : Int) : Vs := [.int .i64 at_, .ptr (.hp 0) 0, .ptr (.hp 1) 0, .ptr (.hp 2) 0, .ptr (.hp 3) 0]
theorem dotsM_pos {t : Oc} {m : Nat} (h : hd1 t = true) (h2 : (t.getD 0 0 == 46) = true) (he : (dotsM (m + 1) t).1 = 0) : 1 ≤ (dotsM (m + 1) t).2 := by
 have h1 : decide (1 < t.length) = true := by
  unfold hd1 at h
  rw [Bool.and_eq_true] at h
  exact h.1
 rw [dotsM, h1, h2] at he ⊢
 simp only [Bool.and_self, cond_true] at he ⊢
 cases hb : idE (t.drop 1) == 0 with
 | true => simp only [cond_true]; omega
 | false =>
  rw [hb] at he
  simp only [cond_false] at he
  rw [he] at hb
  cases hb
theorem strQ_pos : ∀ {n : Nat} {t acc : Oc} {i : Nat}, (strQ 0 t acc i).e = 0 → 1 ≤ (strQ 0 t acc i).upto_ := by
 have : ∀ (n : Nat) (t acc : Oc) (i : Nat), t.length ≤ n → (strQ 0 t acc i).e = 0 → 1 ≤ (strQ 0 t acc i).upto_ := by
  intro n
  induction n with
  | zero =>
   intro t acc i h he
   have : t = [] := List.eq_nil_of_length_eq_zero (by omega)
   subst this
   cases he
  | succ n ih =>
   intro t acc i h he
   match t, h, he with
   | [c], h, he =>
    rw [strQ] at he ⊢
    cases h1 : c == 34 with
    | true =>
     cases h2 : decide (acc.length ≤ 4096) with
     | true => simp only [cond_true]; omega
     | false => rw [h1, h2] at he; cases he
    | false =>
     rw [h1] at he
     cases h3 : c == 92 || c == 10
     · rw [h3] at he; cases he
     · rw [h3] at he; cases he
   | c :: d :: u, h, he =>
    rw [strQ] at he ⊢
    simp only [List.length_cons] at h
    cases h1 : c == 34 with
    | true =>
     cases h2 : decide (acc.length ≤ 4096) with
     | true => simp only [cond_true]; omega
     | false => rw [h1, h2] at he; cases he
    | false =>
     simp only [h1, cond_false] at he ⊢
     cases h3 : c == 92 && decide (escI d ≥ 0) with
     | true => simp only [h3, cond_true] at he ⊢; exact ih _ _ _ (by omega) he
     | false =>
      simp only [h3, cond_false] at he ⊢
      cases h4 : c == 92 || c == 10 with
      | true => rw [h4] at he; cases he
      | false => simp only [h4, cond_false] at he ⊢; exact ih _ _ _ (by simp only [List.length_cons]; omega) he
 intro n t acc i he
 exact this _ t acc i (Nat.le_refl _) he
theorem one_len {t : Oc} (ht : t ≠ []) (he : (oneM t).e = 0) : 1 ≤ (oneM t).len ∧ (oneM t).len ≤ t.length := by
 have hl : 0 < t.length := List.length_pos_iff.2 ht
 unfold oneM at he ⊢
 cases b1 : ltr (t.getD 0 0) || t.getD 0 0 == 95 with
 | true =>
  simp only [b1, cond_true, cutR] at he ⊢
  refine ⟨?_, runN_le t⟩
  unfold idE at he
  by_cases h0 : 0 < runN t
  · exact h0
  · rw [dF h0] at he
    simp at he
 | false =>
  simp only [b1, cond_false] at he ⊢
  cases b2 : t.getD 0 0 == 46 with
  | true =>
   simp only [b2, cond_true, cutR] at he ⊢
   refine ⟨?_, dotM_le hl⟩
   unfold dotM at he ⊢
   cases h1 : hd1 t with
   | false => simp
   | true =>
    simp only [h1, cond_true] at he ⊢
    obtain ⟨m, hm⟩ : ∃ m, t.length = m + 1 := ⟨t.length - 1, by omega⟩
    rw [hm] at he ⊢
    exact dotsM_pos h1 b2 he
  | false =>
   simp only [b2, cond_false] at he ⊢
   cases b3 : t.getD 0 0 == 36 with
   | true =>
    simp only [b3, cond_true, cutR] at he ⊢
    refine ⟨?_, dollarM_le hl⟩
    unfold dollarM at he ⊢
    cases h1 : hd1 t with
    | false => simp only [cond_false]; omega
    | true =>
     cases h2 : idE (t.drop 1) == 0 with
     | true => simp only [cond_true]; omega
     | false =>
      simp only [h1, h2, cond_true, cond_false] at he
      rw [he] at h2
      cases h2
   | false =>
    simp only [b3, cond_false] at he ⊢
    cases b4 : t.getD 0 0 == 45 || dig (t.getD 0 0) with
    | true =>
     simp only [b4, cond_true, cutR] at he ⊢
     refine ⟨?_, digM_le hl⟩
     unfold digM
     simp only; omega
    | false =>
     simp only [b4, cond_false] at he ⊢
     cases b5 : t.getD 0 0 == 34 with
     | true =>
      simp only [b5, cond_true] at he ⊢
      obtain ⟨q1, q2, q3, q4⟩ := strQ_shift 1 _ (t.drop 1) [] 0 (Nat.le_refl _)
      have ha := strQ_shift 0 _ (t.drop 1) [] 1 (Nat.le_refl _)
      have hb := (ha.2.2.2 he).2
      rw [List.length_drop] at hb
      refine ⟨strQ_pos (n := 0) he, by omega⟩
     | false =>
      simp only [b5, cond_false] at he ⊢
      cases b6 : [58, 61].isPrefixOf t with
      | true => simp only [cond_true, cutR]; exact ⟨by omega, pre_two b6⟩
      | false => simp only [cond_false, cutR]; exact ⟨Nat.le_refl _, hl⟩
structure WdD where
 kind : Int
 text : Oc
 at_ : Nat
def encWd (base : Int) (d : WdD) : Vs := [.int .i64 d.kind, .str d.text, .int .i64 (base + (d.at_ : Int))]
def wdsM : Nat → Oc → Nat → List WdD × Option (Nat × Nat × Int)
 | 0, _, _ => ([], none)
 | m + 1, t, p => bif t == [] then ([], none) else bif blk (t.getD 0 0) then wdsM m (t.drop 1) (p + 1)
  else bif (oneM t).e == 0 then (⟨(oneM t).kind, (oneM t).text, p⟩ :: (wdsM m (t.drop (oneM t).len) (p + (oneM t).len)).1, (wdsM m (t.drop (oneM t).len) (p + (oneM t).len)).2)
  else ([], some (p, (oneM t).off, (oneM t).e))
abbrev wdH (U0 U1 U2 : Obj) (s : Oc) (base a : Int) (rows : List Vs) (u : Nat) : Heap := HwP U0 U1 U2 s base a (.own 5 0 rows.length u false) (.arr 3 rows u)
structure WvA where
 w : WdH
 rows : List Vs
 u : Nat
def WvOk (x : WvA) : Prop := WdOk x.w ∧ (refsO 7 x.w.U0 = true ∧ refsO 7 x.w.U1 = true ∧ refsO 7 x.w.U2 = true) ∧ 0 ≤ x.w.a ∧ x.w.a ≤ x.w.s.length ∧ (x.rows.length : Int) ≤ x.w.a ∧ ∃ ds : List WdD, x.rows = ds.map (encWd x.w.base)
abbrev wvR (x : WvA) : List WdD × Option (Nat × Nat × Int) := wdsM x.w.s.length (x.w.s.drop x.w.a.toNat) x.w.a.toNat
abbrev wvRows (x : WvA) : List Vs := x.rows ++ (wvR x).1.map (encWd x.w.base)
noncomputable def wdsSp : LSp := mkL (fun vs _ H => WvA.mk (WdH.dec H) (rowsO (H.getD 5 (.var []))) (verO (H.getD 5 (.var [])))) WvOk (fun x => wdV x.w.s x.w.base) (fun _ => []) (fun x => wdH x.w.U0 x.w.U1 x.w.U2 x.w.s x.w.base x.w.a x.rows x.u)
 (fun x k => cond (wvR x).2.isSome
  (k (.panic (flt (x.w.base + ((((wvR x).2.getD (0, 0, 0)).1 + ((wvR x).2.getD (0, 0, 0)).2.1 : Nat) : Int)) ((wvR x).2.getD (0, 0, 0)).2.2)) (wdV' x.w.base) [] (wdH x.w.U0 x.w.U1 x.w.U2 x.w.s x.w.base (((wvR x).2.getD (0, 0, 0)).1 : Nat) (wvRows x) (x.u + (wvR x).1.length)))
  (k (.exit 0) (wdV' x.w.base) [] (wdH x.w.U0 x.w.U1 x.w.U2 x.w.s x.w.base x.w.s.length (wvRows x) (x.u + (wvR x).1.length))))
noncomputable def wdsFH : FH := { FH.of [(3, loopSpecR (3, 3, 5) 50 [0,1,4,5,6,7] [] [1,4,5,6,7] [] wdsSp)] with heap := [4, 5, 6, 12], typed := [(12, [(2, wdT)])] }
theorem wds_step (U0 U1 U2 : Obj) (s : Oc) (base a : Int) (m u : Nat) (rows : List Vs) (D : Dfs) (k : Kont) : lturn Tryz.prog layV1 wdsFH 40 3 [0,1,4,5,6,7] [] [1,4,5,6,7] [] (stL 50 [0,1,4,5,6,7] (wdV s base) [] [] (HwP U0 U1 U2 s base a (.own 5 0 m u false) (.arr 3 rows u)) D) k = (
 let c0 : Bool := decide (a < (↑s.length : Int));
 let z3 := oneM (List.drop a.toNat s);
 let n1 : Int := z3.e;
 let m2 : Nat := m + 1;
 let m3 : Nat := u + 1;
 let z0 := WdH.mk U0 U1 U2 s base a (AVal.own 5 0 m u false) (Obj.arr 3 rows u);
 let z1 := [AVal.str s, AVal.int .i64 base, AVal.ptr (Oid.hp 0) 0, AVal.ptr (Oid.hp 1) 0, AVal.ptr (Oid.hp 2) 0, AVal.ptr (Oid.hp 3) 0];
 let z2 := [AVal.int .i64 base, AVal.ptr (Oid.hp 0) 0, AVal.ptr (Oid.hp 1) 0, AVal.ptr (Oid.hp 2) 0, AVal.ptr (Oid.hp 3) 0];
  bif c0 then bif decide (0 ≤ a) && c0 then bif blkI (↑(s.getD a.toNat 0).toNat : Int) then k AExit.normal (stL 50 [0, 1, 4, 5, 6, 7] z1 [] [] [U0, U1, U2, Obj.var [AVal.str s, AVal.int .i64 base, AVal.int .i64 (IntKind.i64.wrap (a + 1)), AVal.own 5 0 m u false], Obj.note 116 4, Obj.arr 3 rows u, Obj.note 94 0] D) else bif tst ((WdOk z0 ∧ WdR z0 ∧ 0 ≤ a ∧ a < (↑s.length : Int)) ∧ SubL [AVal.ptr (Oid.hp 3) 0] [AVal.ptr (Oid.hp 3) 0] ∧ HwP U0 U1 U2 s base a (AVal.own 5 0 m u false) (Obj.arr 3 rows u) = z0.heap) then bif n1 == 0 then bif u == u && m == rows.length && decide ((2 * m2 + 1000) * 32 ≤ 281474976710656) && true then bif sameV (AVal.own 5 0 m u false) (AVal.own 5 0 m u false) && true && true && true then k AExit.normal (stL 50 [0, 1, 4, 5, 6, 7] z1 [] [] [U0, U1, U2, Obj.var [AVal.str s, AVal.int .i64 base, AVal.int .i64 (↑(a.toNat + z3.len) : Int), AVal.own 5 0 m2 m3 false], Obj.note 116 4, Obj.arr 3 (rows.append [[AVal.int .i64 z3.kind, AVal.str z3.text, AVal.int .i64 (base + (↑a.toNat : Int))]]) m3, Obj.note 94 0] D) else none else none else k (AExit.panic (flt (base + (↑(a.toNat + z3.off) : Int)) n1)) (stL 50 [1, 4, 5, 6, 7] z2 [] [] z0.heap D) else none else none else k (AExit.exit 0) (stL 50 [1, 4, 5, 6, 7] z2 [] [] (HwP U0 U1 U2 s base a (AVal.own 5 0 m u false) (Obj.arr 3 rows u)) D)) := by kernel_rfl
theorem wdR_of {U0 U1 U2 : Obj} {s : Oc} {base a : Int} {rows : List Vs} {u : Nat} (h0 : refsO 7 U0 = true) (h1 : refsO 7 U1 = true) (h2 : refsO 7 U2 = true) {n : Nat} {ds : List WdD} (hr : rows = ds.map (encWd base)) : ∀ o ∈ HwP U0 U1 U2 s base a (.own 5 0 n u false) (.arr 3 rows u), refsO 7 o = true := by
 intro o ho
 simp only [HwP, List.mem_cons, List.not_mem_nil, or_false] at ho
 rcases ho with rfl | rfl | rfl | rfl | rfl | rfl | rfl
 · exact h0
 · exact h1
 · exact h2
 · rfl
 · rfl
 · subst hr
   simp only [refsO, List.all_map, List.all_eq_true]
   intro d _
   rfl
 · rfl
theorem wds_runs (U0 U1 U2 : Obj) (s : Oc) (base : Int) (hs : s.length ≤ 1073741824) (hb0 : 0 ≤ base) (hb1 : base ≤ 1099511627776) (g0 : refsO 7 U0 = true) (g1 : refsO 7 U1 = true) (g2 : refsO 7 U2 = true) : ∀ (m p u : Nat) (rows : List Vs) (ds : List WdD), rows = ds.map (encWd base) → s.length - p ≤ m → p ≤ s.length → rows.length ≤ p →
 ((wdsM m (s.drop p) p).2 = none → LoopRuns (lturn Tryz.prog layV1 wdsFH 40 3 [0,1,4,5,6,7] [] [1,4,5,6,7] []) 50 [0,1,4,5,6,7] [] [1,4,5,6,7] [] (wdV s base) [] (wdH U0 U1 U2 s base p rows u) (.exit 0) (wdV' base) [] (wdH U0 U1 U2 s base s.length (rows ++ (wdsM m (s.drop p) p).1.map (encWd base)) (u + (wdsM m (s.drop p) p).1.length))) ∧
 (∀ q off e, (wdsM m (s.drop p) p).2 = some (q, off, e) → LoopRuns (lturn Tryz.prog layV1 wdsFH 40 3 [0,1,4,5,6,7] [] [1,4,5,6,7] []) 50 [0,1,4,5,6,7] [] [1,4,5,6,7] [] (wdV s base) [] (wdH U0 U1 U2 s base p rows u) (.panic (flt (base + ((q + off : Nat) : Int)) e)) (wdV' base) [] (wdH U0 U1 U2 s base q (rows ++ (wdsM m (s.drop p) p).1.map (encWd base)) (u + (wdsM m (s.drop p) p).1.length))) := by
 intro m
 induction m with
 | zero =>
  intro p u rows ds hr hm hp hl
  have hps : p = s.length := by omega
  refine ⟨fun _ => .stop (by simp) (fun D k => ?_), fun q off e h => by cases h⟩
  rw [wds_step]
  simp (disch := omega) only [dF, cond_false]
  subst hps
  simp only [wdsM, List.map_nil, List.append_nil, List.length_nil, Nat.add_zero]
 | succ m ih =>
  intro p u rows ds hr hm hp hl
  by_cases hlt : p < s.length
  case neg =>
   have hps : p = s.length := by omega
   have e : s.drop p = [] := List.drop_eq_nil_of_le (by omega)
   rw [e]
   refine ⟨fun _ => .stop (by simp) (fun D k => ?_), fun q off e h => by cases h⟩
   rw [wds_step]
   simp (disch := omega) only [dF, cond_false]
   subst hps
   show k _ _ = k _ _
   simp only [wdsM, List.map_nil, List.append_nil, List.length_nil, Nat.add_zero]
   simp
  have key := fun D k => wds_step U0 U1 U2 s base p rows.length u rows D k
  have hne : s.drop p ≠ [] := by
   intro e
   have := congrArg List.length e
   simp at this; omega
  have hne2 : (s.drop p == []) = false := by simpa using hne
  have hg : (s.drop p).getD 0 0 = s.getD p 0 := by rw [List.getD_drop]; rfl
  have e2 : IntKind.i64.wrap ((p : Int) + 1) = ((p + 1 : Nat) : Int) := by rw [wrap_of (by omega) (by omega)]; omega
  simp (disch := omega) only [dT, cond_true, Bool.and_self, Int.toNat_natCast, blkI_eq, e2, sameV_refl, beq_self_eq_true, Bool.and_true, Bool.true_and] at key
  rw [wdsM, hne2, hg]
  simp only [cond_false]
  cases hbk : blk (s.getD p 0) with
  | true =>
   simp only [hbk, cond_true] at key ⊢
   have ed : (s.drop p).drop 1 = s.drop (p + 1) := by rw [List.drop_drop]
   rw [ed]
   have := ih (p + 1) u rows ds hr (by omega) (by omega) (by omega)
   exact ⟨fun h => .step key (this.1 h), fun q off e h => .step key (this.2 q off e h)⟩
  | false =>
   simp only [hbk, cond_false] at key ⊢
   replace key := fun D k => (key D k).trans ((congrArg (fun c => cond c _ none) (tst_true ⟨⟨⟨hs, hb0, hb1⟩, wdR_of g0 g1 g2 hr, by omega, by omega⟩, .refl _, by trivial⟩)).trans rfl)
   cases he : (oneM (s.drop p)).e == 0 with
   | true =>
    obtain ⟨l1, l2⟩ := one_len hne (by simpa using he)
    rw [List.length_drop] at l2
    simp (disch := omega) only [he, cond_true, dT] at key ⊢
    have ed : (s.drop p).drop (oneM (s.drop p)).len = s.drop (p + (oneM (s.drop p)).len) := by rw [List.drop_drop]
    rw [ed]
    have := ih (p + (oneM (s.drop p)).len) (u + 1) (rows ++ [encWd base ⟨(oneM (s.drop p)).kind, (oneM (s.drop p)).text, p⟩]) (ds ++ [⟨(oneM (s.drop p)).kind, (oneM (s.drop p)).text, p⟩]) (by rw [hr, List.map_append]; rfl) (by omega) (by omega) (by rw [List.length_append]; show _ + 1 ≤ _; omega)
    rw [show u + 1 + (wdsM m (s.drop (p + (oneM (s.drop p)).len)) (p + (oneM (s.drop p)).len)).1.length = u + ((wdsM m (s.drop (p + (oneM (s.drop p)).len)) (p + (oneM (s.drop p)).len)).1.length + 1) by omega] at this
    have ew : ∀ (a : Int) (r : Vs) (v : Nat), wdH U0 U1 U2 s base a (rows ++ [r]) v = HwP U0 U1 U2 s base a (.own 5 0 (rows.length + 1) v false) (.arr 3 (rows ++ [r]) v) := fun a r v => by
     show HwP U0 U1 U2 s base a (.own 5 0 (rows ++ [r]).length v false) (.arr 3 (rows ++ [r]) v) = _
     rw [List.length_append]; rfl
    rw [ew] at this
    simp only [List.append_assoc, List.singleton_append, List.map_cons, List.length_cons, List.length_append, List.length_nil, Nat.zero_add] at this ⊢
    exact ⟨fun h => .step key (this.1 h), fun q off e h => .step key (this.2 q off e h)⟩
   | false =>
    simp only [he, cond_false] at key ⊢
    refine ⟨(fun h => by cases h), fun q off e h => ?_⟩
    cases h
    simp only [List.map_nil, List.append_nil, List.length_nil, Nat.add_zero]
    exact .stop (by simp) key
theorem wdsSp_ok : SpOK (lturn Tryz.prog layV1 wdsFH 40 3 [0,1,4,5,6,7] [] [1,4,5,6,7] []) 50 [0,1,4,5,6,7] [] [1,4,5,6,7] [] wdsSp := mkL_ok fun x h => by
 obtain ⟨⟨U0, U1, U2, s, base, a, o, O⟩, rows, u⟩ := x
 obtain ⟨⟨h1, h2, h3⟩, ⟨g0, g1, g2⟩, h4, h5, h6, ds, h7⟩ := h
 simp only at h1 h2 h3 h4 h5 h6 h7 g0 g1 g2
 obtain ⟨p, rfl⟩ : ∃ p : Nat, a = p := ⟨a.toNat, by omega⟩
 have key := wds_runs U0 U1 U2 s base h1 h2 h3 g0 g1 g2 s.length p u rows ds h7 (by omega) (by omega) (by omega)
 show ∃ e vs bs H, (∀ k : AExit → Vs → List Vs → Heap → Ans, cond (wdsM s.length (s.drop p) p).2.isSome _ _ = k e vs bs H) ∧ LoopRuns _ _ _ _ _ _ (wdV s base) [] (wdH U0 U1 U2 s base p rows u) _ _ _ _
 cases hb : (wdsM s.length (s.drop p) p).2 with
 | none => 
  have := key.1 hb
  refine ⟨_, _, _, _, fun k => rfl, ?_⟩
  exact this
 | some v =>
  obtain ⟨q, off, e⟩ := v
  have := key.2 q off e hb
  refine ⟨_, _, _, _, fun k => ?_, this⟩
  show k (.panic (flt (base + ((((wdsM s.length (s.drop p) p).2.getD (0, 0, 0)).1 + ((wdsM s.length (s.drop p) p).2.getD (0, 0, 0)).2.1 : Nat) : Int)) ((wdsM s.length (s.drop p) p).2.getD (0, 0, 0)).2.2)) _ _ (wdH U0 U1 U2 s base (((wdsM s.length (s.drop p) p).2.getD (0, 0, 0)).1 : Nat) (wvRows _) _) = _
  rw [hb]
  rfl
noncomputable def layV2 : Lay := layV1.addL 40 wdsFH
theorem layV2_ok : layV2.OK Tryz.prog := layV1_ok.loop1R (r := (3, 3, 5)) (id := 3) (by kernel_rfl) (by kernel_rfl) (by kernel_rfl) wdsSp_ok
theorem words_fun (s : Oc) (base : Int) (k : Out → Ans) (m0 : Nat) (e_m0 : m0 = (((wvR
 (WvA.mk
  (WdH.mk (Obj.var [AVal.list true 0 fun (x : Nat) => []]) (Obj.var [AVal.int .i64 0])
   (Obj.var [AVal.int .i64 0]) s base 0 (AVal.own 5 0 0 1 false) (Obj.arr 3 [] 1))
  [] 1)).snd.getD
 (0, 0, 0)).fst))
 (m1 : Nat) (e_m1 : m1 = (1 +
  (wvR
   (WvA.mk
    (WdH.mk (Obj.var [AVal.list true 0 fun (x : Nat) => []]) (Obj.var [AVal.int .i64 0])
     (Obj.var [AVal.int .i64 0]) s base 0 (AVal.own 5 0 0 1 false) (Obj.arr 3 [] 1))
    [] 1)).fst.length)) : iFun Tryz.prog (layV2.hd Tryz.prog) layV2.fhs 0 40 [.str s, .int .i64 base] [] k = (
 let z0 := Obj.var [AVal.int .i64 0];
 bif tst (WvOk (WvA.mk (WdH.mk (Obj.var [AVal.list true 0 fun (x : Nat) => []]) z0 z0 s base 0 (AVal.own 5 0 0 1 false) (Obj.arr 3 [] 1)) [] 1) ∧ SubTL [AVal.str s, AVal.int .i64 base, AVal.ptr (Oid.hp 0) 0, AVal.ptr (Oid.hp 1) 0, AVal.ptr (Oid.hp 2) 0, AVal.ptr (Oid.hp 3) 0] (wdV s base) ∧ ([] : List Vs) = [] ∧ relAt 3 3 5 [Obj.var [AVal.list true 0 fun (x : Nat) => []], Obj.var [AVal.int .i64 0], Obj.var [AVal.int .i64 0], Obj.var [AVal.str s, AVal.int .i64 base, AVal.int .i64 0, AVal.list true 0 fun (x : Nat) => []], Obj.note 116 4, Obj.arr 3 [] 0, Obj.note 94 0] = wdH (Obj.var [AVal.list true 0 fun (x : Nat) => []]) z0 z0 s base 0 [] 1) then bif (wvR (WvA.mk (WdH.mk (Obj.var [AVal.list true 0 fun (x : Nat) => []]) z0 z0 s base 0 (AVal.own 5 0 0 1 false) (Obj.arr 3 [] 1)) [] 1)).snd.isSome then k (Out.ret (AVal.tuple [AVal.list true 0 fun (x : Nat) => [], AVal.int .i64 (base + (↑(m0 + ((wvR (WvA.mk (WdH.mk (Obj.var [AVal.list true 0 fun (x : Nat) => []]) z0 z0 s base 0 (AVal.own 5 0 0 1 false) (Obj.arr 3 [] 1)) [] 1)).snd.getD (0, 0, 0)).snd.fst) : Int)), AVal.int .i64 ((wvR (WvA.mk (WdH.mk (Obj.var [AVal.list true 0 fun (x : Nat) => []]) z0 z0 s base 0 (AVal.own 5 0 0 1 false) (Obj.arr 3 [] 1)) [] 1)).snd.getD (0, 0, 0)).snd.snd]) [Obj.var [AVal.list true 0 fun (x : Nat) => []], Obj.var [AVal.int .i64 (base + (↑(m0 + ((wvR (WvA.mk (WdH.mk (Obj.var [AVal.list true 0 fun (x : Nat) => []]) z0 z0 s base 0 (AVal.own 5 0 0 1 false) (Obj.arr 3 [] 1)) [] 1)).snd.getD (0, 0, 0)).snd.fst) : Int))], Obj.var [AVal.int .i64 ((wvR (WvA.mk (WdH.mk (Obj.var [AVal.list true 0 fun (x : Nat) => []]) z0 z0 s base 0 (AVal.own 5 0 0 1 false) (Obj.arr 3 [] 1)) [] 1)).snd.getD (0, 0, 0)).snd.snd], Obj.var [AVal.str s, AVal.int .i64 base, AVal.int .i64 (↑m0 : Int), AVal.own 5 0 (wvRows (WvA.mk (WdH.mk (Obj.var [AVal.list true 0 fun (x : Nat) => []]) z0 z0 s base 0 (AVal.own 5 0 0 1 false) (Obj.arr 3 [] 1)) [] 1)).length m1 false], Obj.note 116 4, Obj.arr 3 (wvRows (WvA.mk (WdH.mk (Obj.var [AVal.list true 0 fun (x : Nat) => []]) z0 z0 s base 0 (AVal.own 5 0 0 1 false) (Obj.arr 3 [] 1)) [] 1)) m1, Obj.note 94 0]) else k (Out.ret (AVal.tuple [AVal.own 5 0 (wvRows (WvA.mk (WdH.mk (Obj.var [AVal.list true 0 fun (x : Nat) => []]) z0 z0 s base 0 (AVal.own 5 0 0 1 false) (Obj.arr 3 [] 1)) [] 1)).length m1 false, AVal.int .i64 base, AVal.int .i64 0]) [Obj.var [AVal.own 5 0 (wvRows (WvA.mk (WdH.mk (Obj.var [AVal.list true 0 fun (x : Nat) => []]) z0 z0 s base 0 (AVal.own 5 0 0 1 false) (Obj.arr 3 [] 1)) [] 1)).length m1 false], Obj.var [AVal.int .i64 base], Obj.var [AVal.int .i64 0], Obj.var [AVal.str s, AVal.int .i64 base, AVal.int .i64 (↑s.length : Int), AVal.own 5 0 (wvRows (WvA.mk (WdH.mk (Obj.var [AVal.list true 0 fun (x : Nat) => []]) z0 z0 s base 0 (AVal.own 5 0 0 1 false) (Obj.arr 3 [] 1)) [] 1)).length m1 false], Obj.note 116 4, Obj.arr 3 (wvRows (WvA.mk (WdH.mk (Obj.var [AVal.list true 0 fun (x : Nat) => []]) z0 z0 s base 0 (AVal.own 5 0 0 1 false) (Obj.arr 3 [] 1)) [] 1)) m1, Obj.note 94 0]) else none) := by
  subst e_m0 e_m1
  kernel_rfl
theorem freeze_rows {α : Type} {H : Heap} {k sz u : Nat} {f : α → Vs} {d : α} {l : List α} (hH : H[k]? = some (.arr sz (l.map f) u)) (hp : ∀ a, (f a).mapM (freezeV H 1) = some (f a)) : ∃ v, freezeV H 2 (.own k 0 (l.map f).length u false) = some v ∧ Sub v (encL false f d l) := by
 have hfz := freezeW (len := (l.map f).length) (off := 0) (clip := false) (d := 1) (rows' := l.map f) hH (by simp) (by
  rw [List.drop_zero, List.take_length]
  refine freeze_pures _ 0 _ (fun r hr => ?_)
  obtain ⟨a, _, rfl⟩ := List.mem_map.1 hr
  exact hp a)
 refine ⟨_, hfz, ?_⟩
 show Sub (.list false (l.map f).length _) (.list false l.length _)
 rw [List.length_map]
 refine Sub.list (fun h => h) (fun i hi => ?_)
 have : (l.map f).getD i [] = f (l.getD i d) := by
  simp only [gQ, List.getElem?_map, List.getElem?_eq_getElem hi, Option.map_some, Option.getD_some]
 rw [this]
 exact .refl _
def wordsOf (s : Oc) : List WdD := (wdsM s.length s 0).1
def wordsE (s : Oc) : Option (Nat × Nat × Int) := (wdsM s.length s 0).2
def wdAt (s : Oc) : Nat := ((wordsE s).getD (0, 0, 0)).1 + ((wordsE s).getD (0, 0, 0)).2.1
def wdErr (s : Oc) : Int := ((wordsE s).getD (0, 0, 0)).2.2
abbrev encWds (base : Int) (l : List WdD) : AVal := encL false (encWd base) ⟨0, [], 0⟩ l
abbrev wv0 (s : Oc) (base : Int) : WvA := ⟨⟨.var [nilList], .var [.int .i64 0], .var [.int .i64 0], s, base, 0, .own 5 0 0 1 false, .arr 3 [] 1⟩, [], 1⟩
theorem wv0_ok {s : Oc} {base : Int} (hs : s.length ≤ 1073741824) (h0 : 0 ≤ base) (h1 : base ≤ 1099511627776) : WvOk (wv0 s base) := ⟨⟨hs, h0, h1⟩, ⟨rfl, rfl, rfl⟩, Int.le_refl _, by show (0 : Int) ≤ (s.length : Int); omega, Int.le_refl _, [], rfl⟩
theorem words_good (s : Oc) (base : Int) (hs : s.length ≤ 1073741824) (h0 : 0 ≤ base) (h1 : base ≤ 1099511627776) (hb : (wordsE s).isSome = false) : CallOK Tryz.prog 40 [.str s, .int .i64 base] [] (.ret (.tuple [encWds base (wordsOf s), .int .i64 base, .int .i64 0]) []) := by
 have hr : wvRows (wv0 s base) = (wordsOf s).map (encWd base) := rfl
 have call : ∀ k, iFun Tryz.prog (layV2.hd Tryz.prog) layV2.fhs 0 40 [.str s, .int .i64 base] [] k = k (.ret (.tuple [.own 5 0 (wvRows (wv0 s base)).length (1 + (wordsOf s).length) false, .int .i64 base, .int .i64 0])
  [.var [.own 5 0 (wvRows (wv0 s base)).length (1 + (wordsOf s).length) false], .var [.int .i64 base], .var [.int .i64 0], .var [.str s, .int .i64 base, .int .i64 s.length, .own 5 0 (wvRows (wv0 s base)).length (1 + (wordsOf s).length) false], .note wsT 4, .arr 3 (wvRows (wv0 s base)) (1 + (wordsOf s).length), .note wdT 0]) := fun k => by
  rw [words_fun s base k _ rfl (1 + (wordsOf s).length) rfl]
  refine (congrArg (fun c => cond c _ none) (tst_true ⟨wv0_ok hs h0 h1, .refl _, rfl, rfl⟩)).trans ?_
  have hb' : (wvR (wv0 s base)).2.isSome = false := hb
  exact (congrArg (fun c => cond c _ _) hb').trans rfl
 rw [hr] at call
 obtain ⟨v, g1, g2⟩ := freeze_rows (f := encWd base) (d := ⟨0, [], 0⟩) (l := wordsOf s) (k := 5) (sz := 3) (u := 1 + (wordsOf s).length) (H := [.var [.own 5 0 ((wordsOf s).map (encWd base)).length (1 + (wordsOf s).length) false], .var [.int .i64 base], .var [.int .i64 0], .var [.str s, .int .i64 base, .int .i64 s.length, .own 5 0 ((wordsOf s).map (encWd base)).length (1 + (wordsOf s).length) false], .note wsT 4, .arr 3 ((wordsOf s).map (encWd base)) (1 + (wordsOf s).length), .note wdT 0]) rfl (fun a => rfl)
 exact ((layV2_ok.call call).freeze (d := 3) (freeze_t3 g1)).sub (.refl _) ⟨Sub.tuple (.cons g2 (.refl _)), rfl⟩
theorem words_bad (s : Oc) (base : Int) (hs : s.length ≤ 1073741824) (h0 : 0 ≤ base) (h1 : base ≤ 1099511627776) (hb : (wordsE s).isSome = true) : CallOK Tryz.prog 40 [.str s, .int .i64 base] [] (.ret (.tuple [nilList, .int .i64 (base + (wdAt s : Int)), .int .i64 (wdErr s)]) []) := by
 have hb' : (wvR (wv0 s base)).2.isSome = true := hb
 have key := fun k => (words_fun s base k _ rfl _ rfl).trans ((congrArg (fun c => cond c _ none) (tst_true ⟨wv0_ok hs h0 h1, .refl _, rfl, rfl⟩)).trans ((congrArg (fun c => cond c _ _) hb').trans (cond_true _ _)))
 exact layV2_ok.callF rfl key
def wordsTold : FSp := mkFS [.s, .i .i64] (fun xs => decide ((aS xs 0).length ≤ 1073741824 ∧ 0 ≤ aI xs 1 ∧ aI xs 1 ≤ 1099511627776))
 (fun xs k => cond (wordsE (aS xs 0)).isSome (k (.ret (.tuple [nilList, .int .i64 (aI xs 1 + (wdAt (aS xs 0) : Int)), .int .i64 (wdErr (aS xs 0))]) [])) (k (.ret (.tuple [encWds (aI xs 1) (wordsOf (aS xs 0)), .int .i64 (aI xs 1), .int .i64 0]) [])))
theorem wordsTold_ok : ∀ xs H k out, wordsTold xs H k = some out → ∃ o, CallOK Tryz.prog 40 xs H o ∧ k o = some out := mkFS_ok fun ys xs e h => by
 obtain ⟨s, n, rfl⟩ : ∃ s n, xs = [.str s, .int .i64 n] := ⟨_, _, e⟩
 replace h : s.length ≤ 1073741824 ∧ 0 ≤ n ∧ n ≤ 1099511627776 := of_decide_eq_true h
 show ∃ o, (∀ k : Out → Ans, cond (wordsE s).isSome _ _ = k o) ∧ _
 cases hb : (wordsE s).isSome with
 | true => exact ⟨_, fun k => rfl, words_bad s n h.1 h.2.1 h.2.2 hb⟩
 | false => exact ⟨_, fun k => rfl, words_good s n h.1 h.2.1 h.2.2 hb⟩
end Go.Mu
namespace Go.Proofs
open Go.Shelf
def Tryz.pRen : Ren := {
 f := fun x => match x with
  | 138 => 112
  | 143 => 16
  | 145 => 106
  | 146 => 108
  | 195 => 113
  | 197 => 71
  | 217 => 47
  | 218 => 114
  | 219 => 27
  | 220 => 109
  | 221 => 110
  | 224 => 49
  | 225 => 48
  | 260 => 90
  | 266 => 68
  | 267 => 50
  | 268 => 111
  | 314 => 69
  | n => n,
 t := fun x => match x with
  | 0 => 0
  | 3 => 3
  | 4 => 4
  | 5 => 5
  | 9 => 9
  | 21 => 21
  | 31 => 77
  | 46 => 101
  | 51 => 122
  | 59 => 154
  | 105 => 125
  | 119 => 147
  | 138 => 149
  | 139 => 150
  | 146 => 123
  | n => n,
 g := fun x => match x with
  | 1 => 0
  | 3 => 1
  | 4 => 2
  | n => n }
theorem Tryz.pRen_145 : Lays.n145 Tryz.prog Tryz.pRen := {
 mixed := by kernel_rfl
 f145 := Tryz.func106.trans (congrArg some (by kernel_rfl))
 f217 := Tryz.func47.trans (congrArg some (by kernel_rfl))
 f219 := Tryz.func27.trans (congrArg some (by kernel_rfl))
 f220 := Tryz.func109.trans (congrArg some (by kernel_rfl))
 f224 := Tryz.func49.trans (congrArg some (by kernel_rfl))
 f225 := Tryz.func48.trans (congrArg some (by kernel_rfl))
 f266 := Tryz.func68.trans (congrArg some (by kernel_rfl))
 f267 := Tryz.func50.trans (congrArg some (by kernel_rfl))
 f314 := Tryz.func69.trans (congrArg some (by kernel_rfl))
 t3 := Tryz.underlying3
 a3 := Tryz.isAgg3
 z3 := Tryz.sizeOf3
 v3 := Tryz.zeroValue3
 t4 := Tryz.underlying4
 a4 := Tryz.isAgg4
 z4 := Tryz.sizeOf4
 v4 := Tryz.zeroValue4
 t5 := Tryz.underlying5
 a5 := Tryz.isAgg5
 z5 := Tryz.sizeOf5
 v5 := Tryz.zeroValue5
 t9 := Tryz.underlying9
 a9 := Tryz.isAgg9
 z9 := Tryz.sizeOf9
 v9 := Tryz.zeroValue9
 t46 := Tryz.underlying101
 a46 := Tryz.isAgg101
 z46 := Tryz.sizeOf101
 v46 := Tryz.zeroValue101
 t51 := Tryz.underlying122
 a51 := Tryz.isAgg122
 z51 := Tryz.sizeOf122
 v51 := Tryz.zeroValue122
 t59 := Tryz.underlying154
 a59 := Tryz.isAgg154
 z59 := Tryz.sizeOf154
 v59 := Tryz.zeroValue154
 t146 := Tryz.underlying123
 a146 := Tryz.isAgg123
 z146 := Tryz.sizeOf123
 v146 := Tryz.zeroValue123
 g1 := by kernel_rfl
}
theorem Tryz.pRen_146 : Lays.n146 Tryz.prog Tryz.pRen := {
 mixed := by kernel_rfl
 f138 := Tryz.func112.trans (congrArg some (by kernel_rfl))
 f143 := Tryz.func16.trans (congrArg some (by kernel_rfl))
 f146 := Tryz.func108.trans (congrArg some (by kernel_rfl))
 f195 := Tryz.func113.trans (congrArg some (by kernel_rfl))
 f197 := Tryz.func71.trans (congrArg some (by kernel_rfl))
 f217 := Tryz.func47.trans (congrArg some (by kernel_rfl))
 f218 := Tryz.func114.trans (congrArg some (by kernel_rfl))
 f219 := Tryz.func27.trans (congrArg some (by kernel_rfl))
 f221 := Tryz.func110.trans (congrArg some (by kernel_rfl))
 f224 := Tryz.func49.trans (congrArg some (by kernel_rfl))
 f225 := Tryz.func48.trans (congrArg some (by kernel_rfl))
 f260 := Tryz.func90.trans (congrArg some (by kernel_rfl))
 f266 := Tryz.func68.trans (congrArg some (by kernel_rfl))
 f267 := Tryz.func50.trans (congrArg some (by kernel_rfl))
 f268 := Tryz.func111.trans (congrArg some (by kernel_rfl))
 f314 := Tryz.func69.trans (congrArg some (by kernel_rfl))
 t0 := Tryz.underlying0
 a0 := Tryz.isAgg0
 z0 := Tryz.sizeOf0
 v0 := Tryz.zeroValue0
 t3 := Tryz.underlying3
 a3 := Tryz.isAgg3
 z3 := Tryz.sizeOf3
 v3 := Tryz.zeroValue3
 t4 := Tryz.underlying4
 a4 := Tryz.isAgg4
 z4 := Tryz.sizeOf4
 v4 := Tryz.zeroValue4
 t5 := Tryz.underlying5
 a5 := Tryz.isAgg5
 z5 := Tryz.sizeOf5
 v5 := Tryz.zeroValue5
 t9 := Tryz.underlying9
 a9 := Tryz.isAgg9
 z9 := Tryz.sizeOf9
 v9 := Tryz.zeroValue9
 t21 := Tryz.underlying21
 a21 := Tryz.isAgg21
 z21 := Tryz.sizeOf21
 v21 := Tryz.zeroValue21
 t31 := Tryz.underlying77
 a31 := Tryz.isAgg77
 z31 := Tryz.sizeOf77
 v31 := Tryz.zeroValue77
 t46 := Tryz.underlying101
 a46 := Tryz.isAgg101
 z46 := Tryz.sizeOf101
 v46 := Tryz.zeroValue101
 t51 := Tryz.underlying122
 a51 := Tryz.isAgg122
 z51 := Tryz.sizeOf122
 v51 := Tryz.zeroValue122
 t105 := Tryz.underlying125
 a105 := Tryz.isAgg125
 z105 := Tryz.sizeOf125
 v105 := Tryz.zeroValue125
 t119 := Tryz.underlying147
 a119 := Tryz.isAgg147
 z119 := Tryz.sizeOf147
 t138 := Tryz.underlying149
 a138 := Tryz.isAgg149
 z138 := Tryz.sizeOf149
 v138 := Tryz.zeroValue149
 t139 := Tryz.underlying150
 a139 := Tryz.isAgg150
 z139 := Tryz.sizeOf150
 v139 := Tryz.zeroValue150
 t146 := Tryz.underlying123
 a146 := Tryz.isAgg123
 z146 := Tryz.sizeOf123
 v146 := Tryz.zeroValue123
 g1 := by kernel_rfl
 g3 := by kernel_rfl
 g4 := by kernel_rfl
}
end Go.Proofs
namespace Go.Mu
open Go Go.Proofs Go.RowKit
section
variable {P : Program} {w w' : World} {E : Env} {H : Heap}
theorem Sim.freshV (sim : Sim w E H) (hb : Below w.heap.size w w') {Q : Nat → Prop} (hQ : ∀ b, Q b → w.heap.size ≤ b ∧ b < w'.heap.size) :
 Evo No w E H w' { E with imm := fun x => E.imm x ∨ Q x } H ∧ Sim w' { E with imm := fun x => E.imm x ∨ Q x } H := by
 have old : ∀ {b}, b < w.heap.size → w'.heap[b]? = w.heap[b]? := fun h => hb.block _ h
 have hsz := hb.size
 have ev : Evo No w E H w' { E with imm := fun x => E.imm x ∨ Q x } H := by
  refine ⟨hsz, fun b hb _ _ => old hb, fun b hb => ⟨.inl hb, old (sim.immLt b hb)⟩, fun b hb => ?_, fun k hk => ⟨hk, rfl⟩, fun k sz u hk => ⟨u, hk, Nat.le_refl _, fun _ => ⟨rfl, fun _ => rfl⟩⟩,
   fun k hk => .inr ⟨hk, rfl⟩, Nat.le_refl _, hb.tape, hb.os, hb.output⟩
  rcases hb with hb | hb
  · exact .inl hb
  · exact .inr (hQ _ hb).1
 have hs := ev.sees
 refine ⟨ev, fun b hb => ?_, fun k cs hc => (sim.var k cs hc).mono hs (old (sim.apart k (.inl (var_of_get hc))).2), fun k sz rows u hc => ?_, fun k hk => ⟨?_, ?_⟩, sim.inj, fun j t n hj hl => (sim.note j t n hj hl).same (old (sim.apart _ hl).2), sim.glob.mono hs.imm, fun k kk es h => (sim.map k kk es h).same (old (sim.apart k (.inl (map_isVar h))).2)⟩
 · rcases hb with hb | hb
   · have := sim.immLt b hb; omega
   · exact (hQ _ hb).2
 · obtain ⟨h1, h2, h3, h4⟩ := sim.arr k sz rows u hc
   exact ⟨h1, h2, h3, fun hcap => (h4 hcap).mono hs (old (sim.apart k (.inr ⟨⟨sz, u, arr_of_get hc⟩, hcap⟩)).2)⟩
 · rintro (hb | hb)
   · exact (sim.apart k hk).1 hb
   · have := (sim.apart k hk).2; have := (hQ _ hb).1; simp only at this; omega
 · have := (sim.apart k hk).2; simp only; omega
theorem CallOK.freshV {f : FuncId} {xs : Vs} {v : AVal} (h : ∀ w E (cs : List Value), Sim w E H → cs.length = xs.length → (∀ j, j < xs.length → Rep w E H (xs.getD j .undef) (cs.getD j undef)) →
 ∃ (Q : World → Nat → Prop) (c : Value), Calls P f cs.toArray w (fun e w' => e = .returned c ∧ Below w.heap.size w w' ∧ (∀ b, Q w' b → w.heap.size ≤ b ∧ b < w'.heap.size) ∧ RepP w' (fun x => E.imm x ∨ Q w' x) v c)) : CallOK P f xs H (.ret v H) := by
 intro w E cs sim hl hr
 obtain ⟨Q, c, h1⟩ := h w E cs sim hl hr
 refine Calls.mono h1 (fun e w' hp => ?_)
 obtain ⟨rfl, hb, hq, h2⟩ := hp
 obtain ⟨ev, sim'⟩ := sim.freshV hb hq
 exact ⟨_, ev, sim', .pure _ _ h2⟩
def ba (s : Oc) : ByteArray := ⟨⟨s⟩⟩
theorem alloc_size (w : World) (ds : Array Value) (t : TypeId) : (w.alloc (.cells ds t)).heap.size = w.heap.size + 1 := (pushed_alloc w ds t).size
theorem alloc_new (w : World) (ds : Array Value) (t : TypeId) : (w.alloc (.cells ds t)).heap[w.heap.size]? = some (.cells ds t) := (pushed_alloc w ds t).new
theorem ba_size (s : Oc) : (ba s).size = s.length := rfl
theorem ba_eq {b : ByteArray} {s : Oc} (h : b.data.toList = s) : b = ba s := by
 subst h
 cases b with | mk d => cases d with | mk l => rfl
end
def splitM (s sep : Oc) : List Oc := (Lib.splitB (ba sep) 0 (Lib.countB (ba s) (ba sep)) (ba s)).map (fun b => b.data.toList)
theorem splitM_length {s sep : Oc} (h : 1 ≤ sep.length) : (splitM s sep).length = Lib.countB (ba s) (ba sep) + 1 := by
 unfold splitM
 rw [List.length_map]
 exact Lib.splitB_all (ba sep) (by rw [ba_size]; exact h) 0 _ (ba s) rfl
theorem sSplit_ok (s sep : Oc) (h1 : s.length < 4294967281) (h2 : 1 ≤ sep.length) : CallOK Tryz.prog 108 [.str s, .str sep] [] (.ret (encL true encS [] (splitM s sep)) []) := by
 refine CallOK.freshV (fun w E cs sim hl hr => ?_)
 obtain ⟨x, y, rfl⟩ : ∃ x y, cs = [x, y] := by
  match cs, hl with
  | [x, y], _ => exact ⟨x, y, rfl⟩
 obtain ⟨b, e1, e2⟩ := rep_str (hr 0 (by simp))
 obtain ⟨t, e3, e4⟩ := rep_str (hr 1 (by simp))
 replace e1 : x = .string b := e1
 replace e3 : y = .string t := e3
 subst e1 e3
 rw [ba_eq e2, ba_eq e4]
 obtain ⟨_, m, hm⟩ := sim.glob.1 0 .i64 (by rfl)
 refine ⟨fun _ b => b = w.heap.size, .slice (some ⟨w.heap.size, 0, none⟩) (Lib.countB (ba s) (ba sep) + 1) (Lib.countB (ba s) (ba sep) + 1), ?_⟩
 refine (Any.strings_Split Tryz.pRen_146 (by kernel_rfl) (ba s) (ba sep) m w (by rw [ba_size]; exact h1) hm (by rw [ba_size]; exact h2)).mono fun e w' ⟨he, hw⟩ => ⟨he, ?_, ?_, ?_⟩
 · subst hw; exact (Below.refl _ _).alloc (Nat.le_refl _) _
 · subst hw; intro b hb; subst hb; rw [alloc_size]; omega
 · subst hw
   have hlen := splitM_length (s := s) (sep := sep) h2
   rw [← hlen]
   unfold encL
   refine .list true _ _ w.heap.size 0 _ 1 (fun i j => .string (ba ((splitM s sep).getD i []))) (Nat.le_refl _) (fun _ => rfl) (.inr rfl) (fun i hi => rfl) (fun i j hi hj => ?_) (fun i j hi hj => ?_)
   · have hj0 : j = 0 := by omega
     subst hj0
     refine ⟨?_, rfl⟩
     have hi' : i < (Lib.splitB (ba sep) 0 (Lib.countB (ba s) (ba sep)) (ba s)).length := by simpa [splitM] using hi
     have e5 : (splitM s sep).getD i [] = ((Lib.splitB (ba sep) 0 (Lib.countB (ba s) (ba sep)) (ba s))[i]).data.toList := by
      unfold splitM
      rw [gQ, List.getElem?_map, List.getElem?_eq_getElem hi']
      rfl
     have e6 : 0 + i * 1 + 0 = i := by omega
     rw [e5, ← ba_eq rfl, e6]
     unfold World.cell?
     rw [alloc_new]
     simp only [List.getElem?_toArray, List.getElem?_map, List.getElem?_eq_getElem hi', Option.map_some]
     rfl
   · have hj0 : j = 0 := by omega
     subst hj0
     exact .str (ba ((splitM s sep).getD i []))
noncomputable def sSplitTold : FSp := mkFS [.s, .s] (fun xs => decide ((aS xs 0).length < 4294967281) && decide (1 ≤ (aS xs 1).length)) (fun xs k => k (.ret (encL true encS [] (splitM (aS xs 0) (aS xs 1))) []))
theorem sSplitTold_ok : ∀ xs H k out, sSplitTold xs H k = some out → ∃ o, CallOK Tryz.prog 108 xs H o ∧ k o = some out := mkFS_ok fun ys xs e h => by
 obtain ⟨s, t, rfl⟩ : ∃ s t, xs = [.str s, .str t] := ⟨_, _, e⟩
 rw [Bool.and_eq_true, decide_eq_true_eq, decide_eq_true_eq] at h
 exact ⟨_, fun k => rfl, sSplit_ok s t h.1 h.2⟩
theorem sCut_ok (s sep : Oc) (h1 : s.length < 4294967281) : CallOK Tryz.prog 106 [.str s, .str sep] [] (.ret (.tuple [.str (Lib.cut s sep).1, .str (Lib.cut s sep).2.1, .bool (Lib.cut s sep).2.2]) []) := by
 refine CallOK.freshV (fun w E cs sim hl hr => ?_)
 obtain ⟨x, y, rfl⟩ : ∃ x y, cs = [x, y] := by
  match cs, hl with
  | [x, y], _ => exact ⟨x, y, rfl⟩
 obtain ⟨b, e1, e2⟩ := rep_str (hr 0 (by simp))
 obtain ⟨t, e3, e4⟩ := rep_str (hr 1 (by simp))
 replace e1 : x = .string b := e1
 replace e3 : y = .string t := e3
 subst e1 e3
 rw [ba_eq e2, ba_eq e4]
 obtain ⟨_, m, hm⟩ := sim.glob.1 0 .i64 (by rfl)
 refine ⟨fun _ _ => False, .tuple #[.string (ba (Lib.cut s sep).1), .string (ba (Lib.cut s sep).2.1), .bool (Lib.cut s sep).2.2], ?_⟩
 refine (Any.strings_Cut Tryz.pRen_145 (ba s) (ba sep) m w (by rw [ba_size]; exact h1) hm).mono fun e w' ⟨he, n, hw⟩ => ⟨he, ?_, fun b h => h.elim, ?_⟩
 · subst hw; exact ⟨rfl, rfl, rfl, Nat.le_refl _, fun _ _ => rfl⟩
 · refine .tuple _ [.string (ba (Lib.cut s sep).1), .string (ba (Lib.cut s sep).2.1), .bool (Lib.cut s sep).2.2] rfl (fun j hj => ?_)
   match j, hj with
   | 0, _ => exact .str (ba _)
   | 1, _ => exact .str (ba _)
   | 2, _ => exact .bool _
noncomputable def sCutTold : FSp := mkFS [.s, .s] (fun xs => decide ((aS xs 0).length < 4294967281)) (fun xs k => k (.ret (.tuple [.str (Lib.cut (aS xs 0) (aS xs 1)).1, .str (Lib.cut (aS xs 0) (aS xs 1)).2.1, .bool (Lib.cut (aS xs 0) (aS xs 1)).2.2]) []))
theorem sCutTold_ok : ∀ xs H k out, sCutTold xs H k = some out → ∃ o, CallOK Tryz.prog 106 xs H o ∧ k o = some out := mkFS_ok fun ys xs e h => by
 obtain ⟨s, t, rfl⟩ : ∃ s t, xs = [.str s, .str t] := ⟨_, _, e⟩
 exact ⟨_, fun k => rfl, sCut_ok s t (of_decide_eq_true h)⟩
end Go.Mu
namespace Go.Mu
open Go Go.Proofs
structure PrA where
 n : Int
 at_ : Nat
 u : Nat
 t : Oc
end Go.Mu
namespace Go.Mu
open Go Go.Proofs
structure b0H where
 x : Bld
end Go.Mu
namespace Go.Mu
open Go Go.Proofs
def oBad (c : UInt8) : Bool := cond (cond (!cond (decide (IntKind.u8.wrap (BitVec.ofInt 8 (c.toNat : Int) ||| BitVec.ofInt 8 32).toNat ≥ 97)) (decide (IntKind.u8.wrap (BitVec.ofInt 8 (c.toNat : Int) ||| BitVec.ofInt 8 32).toNat ≤ 122)) false) ((c.toNat : Int) != 95) false)
 (cond (decide ((c.toNat : Int) < 48)) true (decide ((c.toNat : Int) > 57))) false
def oIdxFH : FH := .of [(2, loopSpec 19 [0,1,7,8] [] [4] [] (idxSp wfB decB oBad 66))]
theorem oIdx_step (full : Bool) (l : Oc) (i : Nat) (H : Heap) (D : Dfs) (k : Kont) : lturn Tryz.prog Lay.nil oIdxFH 89 2 [0,1,7,8] [] [4] [] (stL 19 [0,1,7,8] [encL full byteRow 0 l, .func 66 [], .int .i64 l.length, .int .i64 i] [] [] H D) k =
 cond (decide ((i : Int) < l.length)) (cond (decide ((i : Int) < l.length)) (cond (oBad (l.getD (i : Int).toNat 0)) (k .ret (stL 19 [4] [.int .i64 i] [] [] H D)) (k .normal (stL 19 [0,1,7,8] [encL full byteRow 0 l, .func 66 [], .int .i64 l.length, .int .i64 (IntKind.i64.wrap ((i : Int) + 1))] [] [] H D))) none)
  (k (.exit 0) (stL 19 [4] [.undef] [] [] H D)) := by kernel_rfl
def layA : Lay := Lay.nil.addL 89 oIdxFH
theorem layA_ok : layA.OK Tryz.prog := Lay.nil_ok.loop1 (id := 2) (by kernel_rfl) (by kernel_rfl) (by kernel_rfl) (idxSp_ok wfB_sub oIdx_step)
def rBadA (c : UInt8) : Bool := cond (!cond (cond (decide ((c.toNat : Int) ≥ 97)) (decide ((c.toNat : Int) ≤ 122)) false) true (cond (decide ((c.toNat : Int) ≥ 65)) (decide ((c.toNat : Int) ≤ 90)) false)) ((c.toNat : Int) != 95) false
def rDig (c : UInt8) : Bool := cond (decide ((c.toNat : Int) ≥ 48)) (decide ((c.toNat : Int) ≤ 57)) false
theorem oBad_eq (c : UInt8) : oBad c = (rBadA c && !rDig c) := by
 have h : ∀ n : Fin 256, oBad (UInt8.ofNat n) = (rBadA (UInt8.ofNat n) && !rDig (UInt8.ofNat n)) := by decide +kernel
 have := h ⟨c.toNat, c.toNat_lt⟩
 simpa using this
theorem rDig_bad (c : UInt8) : (rDig c || oBad c) = rBadA c := by
 have h : ∀ n : Fin 256, (rDig (UInt8.ofNat n) || oBad (UInt8.ofNat n)) = rBadA (UInt8.ofNat n) := by decide +kernel
 have := h ⟨c.toNat, c.toNat_lt⟩
 simpa using this
def nmHit (s : Oc) (i : Nat) : Bool := rBadA (s.getD i 0) && (i == 0 || !rDig (s.getD i 0))
def nameB (s : Oc) : Bool := decide (1 ≤ s.length ∧ s.length ≤ 32) && !(List.range s.length).any (nmHit s)
theorem nmHit_any (c : UInt8) (t : Oc) : (List.range (c :: t).length).any (nmHit (c :: t)) = (rBadA c || t.any oBad) := by
 rw [List.length_cons, List.range_succ_eq_map, List.any_cons, List.any_map]
 have h0 : nmHit (c :: t) 0 = rBadA c := by simp [nmHit]
 have h1 : (nmHit (c :: t) ∘ Nat.succ) = fun i => oBad (t.getD i 0) := by
  funext i
  simp [nmHit, oBad_eq, gQ]
 rw [h0, h1, any_getD]
def layB : Lay := layA
theorem layB_ok : layB.OK Tryz.prog := layA_ok
theorem oName_fun (s : Oc) (k : Out → Ans) : iFun Tryz.prog (layB.hd Tryz.prog) layB.fhs 0 46 [.str s] [] k =
 cond (decide ((0 : Int) < s.length) || !!cond (s == []) true (decide ((s.length : Int) > 32)))
  (cond (decide ((0 : Int) < s.length) || !((!cond (s == []) true (decide ((s.length : Int) > 32))) && decide (((s.getD 0 0).toNat : Int) ≥ 48)))
   (cond (cond (cond (s == []) true (decide ((s.length : Int) > 32))) true (rDig (s.getD 0 0))) (k (.ret (.bool false) []))
    (cond (wfL wfB (encL false byteRow 0 s) && true && ((s.length : Int) == s.length) && true && decide (s.length ≤ 1099511627776) && true)
     (cond ((decL decB (encL false byteRow 0 s)).any oBad) (k (.ret (.bool false) [])) (k (.ret (.bool true) []))) none)) none) none := by kernel_rfl
theorem oName_call (s : Oc) (k : Out → Ans) : iFun Tryz.prog (layB.hd Tryz.prog) layB.fhs 0 46 [.str s] [] k = k (.ret (.bool (nameB s)) []) := by
 rw [oName_fun, wfL_encL wfB_enc, decL_encL decB_enc]
 cases s with
 | nil => rfl
 | cons c t =>
  have h0 : decide ((0 : Int) < ((c :: t).length : Int)) = true := by simp
  have h1 : ((c :: t) == []) = false := rfl
  rw [h0, h1]
  unfold nameB
  rw [nmHit_any]
  by_cases hl : (c :: t).length ≤ 32
  · rw [decide_eq_false (show ¬ (((c :: t).length : Int) > 32) by omega), decide_eq_true (show 1 ≤ (c :: t).length ∧ (c :: t).length ≤ 32 from ⟨by simp, hl⟩), decide_eq_true (show (c :: t).length ≤ 1099511627776 by omega)]
    simp only [List.getD_cons_zero, List.any_cons, beq_self_eq_true, Bool.true_or, Bool.and_self, cond_true, cond_false, Bool.true_and]
    rw [← rDig_bad c]
    cases rDig c <;> cases oBad c <;> cases t.any oBad <;> rfl
  · rw [decide_eq_true (show (((c :: t).length : Int) > 32) by omega), decide_eq_false (show ¬ (1 ≤ (c :: t).length ∧ (c :: t).length ≤ 32) from fun h => hl h.2)]
    rfl
end Go.Mu
namespace Go.Mu
open Go Go.Proofs
structure ArgD where
 kind : Int
 name : Oc
 pf : Bool
 path : List Oc
 int : Int
 text : Oc
def argD0 : ArgD := ⟨0, [], true, [], 0, []⟩
def encArg (a : ArgD) : Vs := [.int .i64 a.kind, .str a.name, encL a.pf encS [] a.path, .int .i64 a.int, .str a.text]
def oNameTold : FSp := fun xs H k => match xs, H with
 | [.str s], [] => k (.ret (.bool (nameB s)) [])
 | _, _ => none
theorem oNameTold_ok (xs : Vs) (H : Heap) (k : Out → Ans) (out : Out) (ho : oNameTold xs H k = some out) : ∃ o, CallOK Tryz.prog 46 xs H o ∧ k o = some out := by
 unfold oNameTold at ho
 split at ho
 · exact ⟨_, layB_ok.call (oName_call _), ho⟩
 · simp at ho
def layC : Lay := layB.addF 46 oNameTold
theorem layC_ok : layC.OK Tryz.prog := layB_ok.addF oNameTold_ok
def pBad (a : ArgD) : Bool := a.path.any (fun s => !nameB s)
def pArgT (a : ArgD) : Bool := cond (cond (cond (cond (cond (cond (decide (a.kind ≥ 1)) (decide (a.kind ≤ 7)) false) (cond (cond (a.kind == 2) (cond (a.name == []) true (nameB a.name)) false) true (a.name == [])) false) (cond (decide (a.kind ≤ 2)) true ((a.path.length : Int) == 0)) false)
 (cond (a.kind == 3) true (a.int == 0)) false) (cond (a.kind == 4) true (a.text == [])) false) (decide ((a.text.length : Int) ≤ 4096)) false
def argB (a : ArgD) : Bool := !pBad a && decide (a.path.length ≤ 16) && pArgT a
noncomputable def layE : Lay := layC
theorem layE_ok : layE.OK Tryz.prog := layC_ok
end Go.Mu
namespace Go.Mu
open Go Go.Proofs
def ar (s : Oc) : Int × Int × Bool := bif (s == [108, 101, 110]) || (s == [110, 111, 116]) || (s == [117, 112, 112, 101, 114]) || (s == [108, 111, 119, 101, 114]) then (1, 1, true) else bif (s == [101, 113]) || (s == [108, 116]) || (s == [97, 110, 100]) || (s == [111, 114]) || (s == [106, 111, 105, 110]) || (s == [100, 101, 102, 97, 117, 108, 116]) || (s == [105, 110, 100, 101, 120]) then (2, 2, true) else bif s == [112, 114, 105, 110, 116] then (1, 8, true) else (0, 0, false)
def arTree (s : Oc) (k : Out → Ans) : Ans :=
 bif s == [108, 101, 110] then
 bif s == [108, 101, 110] then k (Out.ret (AVal.tuple [AVal.int .i64 1, AVal.int .i64 1, AVal.bool true]) [])
 else
 bif s == [101, 113] then
 bif s == [101, 113] then k (Out.ret (AVal.tuple [AVal.int .i64 2, AVal.int .i64 2, AVal.bool true]) [])
 else
 bif s == [112, 114, 105, 110, 116] then k (Out.ret (AVal.tuple [AVal.int .i64 1, AVal.int .i64 8, AVal.bool true]) [])
 else k (Out.ret (AVal.tuple [AVal.int .i64 0, AVal.int .i64 0, AVal.bool false]) [])
 else
 bif s == [108, 116] then
 bif s == [108, 116] then k (Out.ret (AVal.tuple [AVal.int .i64 2, AVal.int .i64 2, AVal.bool true]) [])
 else
 bif s == [112, 114, 105, 110, 116] then k (Out.ret (AVal.tuple [AVal.int .i64 1, AVal.int .i64 8, AVal.bool true]) [])
 else k (Out.ret (AVal.tuple [AVal.int .i64 0, AVal.int .i64 0, AVal.bool false]) [])
 else
 bif s == [97, 110, 100] then
 bif s == [97, 110, 100] then k (Out.ret (AVal.tuple [AVal.int .i64 2, AVal.int .i64 2, AVal.bool true]) [])
 else
 bif s == [112, 114, 105, 110, 116] then k (Out.ret (AVal.tuple [AVal.int .i64 1, AVal.int .i64 8, AVal.bool true]) [])
 else k (Out.ret (AVal.tuple [AVal.int .i64 0, AVal.int .i64 0, AVal.bool false]) [])
 else
 bif s == [111, 114] then
 bif s == [111, 114] then k (Out.ret (AVal.tuple [AVal.int .i64 2, AVal.int .i64 2, AVal.bool true]) [])
 else
 bif s == [112, 114, 105, 110, 116] then k (Out.ret (AVal.tuple [AVal.int .i64 1, AVal.int .i64 8, AVal.bool true]) [])
 else k (Out.ret (AVal.tuple [AVal.int .i64 0, AVal.int .i64 0, AVal.bool false]) [])
 else
 bif s == [106, 111, 105, 110] then
 bif s == [106, 111, 105, 110] then k (Out.ret (AVal.tuple [AVal.int .i64 2, AVal.int .i64 2, AVal.bool true]) [])
 else
 bif s == [112, 114, 105, 110, 116] then k (Out.ret (AVal.tuple [AVal.int .i64 1, AVal.int .i64 8, AVal.bool true]) [])
 else k (Out.ret (AVal.tuple [AVal.int .i64 0, AVal.int .i64 0, AVal.bool false]) [])
 else
 bif s == [100, 101, 102, 97, 117, 108, 116] then
 bif s == [100, 101, 102, 97, 117, 108, 116] then k (Out.ret (AVal.tuple [AVal.int .i64 2, AVal.int .i64 2, AVal.bool true]) [])
 else
 bif s == [112, 114, 105, 110, 116] then k (Out.ret (AVal.tuple [AVal.int .i64 1, AVal.int .i64 8, AVal.bool true]) [])
 else k (Out.ret (AVal.tuple [AVal.int .i64 0, AVal.int .i64 0, AVal.bool false]) [])
 else
 bif s == [105, 110, 100, 101, 120] then k (Out.ret (AVal.tuple [AVal.int .i64 2, AVal.int .i64 2, AVal.bool true]) [])
 else
 bif s == [112, 114, 105, 110, 116] then k (Out.ret (AVal.tuple [AVal.int .i64 1, AVal.int .i64 8, AVal.bool true]) [])
 else k (Out.ret (AVal.tuple [AVal.int .i64 0, AVal.int .i64 0, AVal.bool false]) [])
 else
 bif s == [110, 111, 116] then
 bif s == [110, 111, 116] then k (Out.ret (AVal.tuple [AVal.int .i64 1, AVal.int .i64 1, AVal.bool true]) [])
 else
 bif s == [101, 113] then
 bif s == [101, 113] then k (Out.ret (AVal.tuple [AVal.int .i64 2, AVal.int .i64 2, AVal.bool true]) [])
 else
 bif s == [112, 114, 105, 110, 116] then k (Out.ret (AVal.tuple [AVal.int .i64 1, AVal.int .i64 8, AVal.bool true]) [])
 else k (Out.ret (AVal.tuple [AVal.int .i64 0, AVal.int .i64 0, AVal.bool false]) [])
 else
 bif s == [108, 116] then
 bif s == [108, 116] then k (Out.ret (AVal.tuple [AVal.int .i64 2, AVal.int .i64 2, AVal.bool true]) [])
 else
 bif s == [112, 114, 105, 110, 116] then k (Out.ret (AVal.tuple [AVal.int .i64 1, AVal.int .i64 8, AVal.bool true]) [])
 else k (Out.ret (AVal.tuple [AVal.int .i64 0, AVal.int .i64 0, AVal.bool false]) [])
 else
 bif s == [97, 110, 100] then
 bif s == [97, 110, 100] then k (Out.ret (AVal.tuple [AVal.int .i64 2, AVal.int .i64 2, AVal.bool true]) [])
 else
 bif s == [112, 114, 105, 110, 116] then k (Out.ret (AVal.tuple [AVal.int .i64 1, AVal.int .i64 8, AVal.bool true]) [])
 else k (Out.ret (AVal.tuple [AVal.int .i64 0, AVal.int .i64 0, AVal.bool false]) [])
 else
 bif s == [111, 114] then
 bif s == [111, 114] then k (Out.ret (AVal.tuple [AVal.int .i64 2, AVal.int .i64 2, AVal.bool true]) [])
 else
 bif s == [112, 114, 105, 110, 116] then k (Out.ret (AVal.tuple [AVal.int .i64 1, AVal.int .i64 8, AVal.bool true]) [])
 else k (Out.ret (AVal.tuple [AVal.int .i64 0, AVal.int .i64 0, AVal.bool false]) [])
 else
 bif s == [106, 111, 105, 110] then
 bif s == [106, 111, 105, 110] then k (Out.ret (AVal.tuple [AVal.int .i64 2, AVal.int .i64 2, AVal.bool true]) [])
 else
 bif s == [112, 114, 105, 110, 116] then k (Out.ret (AVal.tuple [AVal.int .i64 1, AVal.int .i64 8, AVal.bool true]) [])
 else k (Out.ret (AVal.tuple [AVal.int .i64 0, AVal.int .i64 0, AVal.bool false]) [])
 else
 bif s == [100, 101, 102, 97, 117, 108, 116] then
 bif s == [100, 101, 102, 97, 117, 108, 116] then k (Out.ret (AVal.tuple [AVal.int .i64 2, AVal.int .i64 2, AVal.bool true]) [])
 else
 bif s == [112, 114, 105, 110, 116] then k (Out.ret (AVal.tuple [AVal.int .i64 1, AVal.int .i64 8, AVal.bool true]) [])
 else k (Out.ret (AVal.tuple [AVal.int .i64 0, AVal.int .i64 0, AVal.bool false]) [])
 else
 bif s == [105, 110, 100, 101, 120] then k (Out.ret (AVal.tuple [AVal.int .i64 2, AVal.int .i64 2, AVal.bool true]) [])
 else
 bif s == [112, 114, 105, 110, 116] then k (Out.ret (AVal.tuple [AVal.int .i64 1, AVal.int .i64 8, AVal.bool true]) [])
 else k (Out.ret (AVal.tuple [AVal.int .i64 0, AVal.int .i64 0, AVal.bool false]) [])
 else
 bif s == [117, 112, 112, 101, 114] then
 bif s == [117, 112, 112, 101, 114] then k (Out.ret (AVal.tuple [AVal.int .i64 1, AVal.int .i64 1, AVal.bool true]) [])
 else
 bif s == [101, 113] then
 bif s == [101, 113] then k (Out.ret (AVal.tuple [AVal.int .i64 2, AVal.int .i64 2, AVal.bool true]) [])
 else
 bif s == [112, 114, 105, 110, 116] then k (Out.ret (AVal.tuple [AVal.int .i64 1, AVal.int .i64 8, AVal.bool true]) [])
 else k (Out.ret (AVal.tuple [AVal.int .i64 0, AVal.int .i64 0, AVal.bool false]) [])
 else
 bif s == [108, 116] then
 bif s == [108, 116] then k (Out.ret (AVal.tuple [AVal.int .i64 2, AVal.int .i64 2, AVal.bool true]) [])
 else
 bif s == [112, 114, 105, 110, 116] then k (Out.ret (AVal.tuple [AVal.int .i64 1, AVal.int .i64 8, AVal.bool true]) [])
 else k (Out.ret (AVal.tuple [AVal.int .i64 0, AVal.int .i64 0, AVal.bool false]) [])
 else
 bif s == [97, 110, 100] then
 bif s == [97, 110, 100] then k (Out.ret (AVal.tuple [AVal.int .i64 2, AVal.int .i64 2, AVal.bool true]) [])
 else
 bif s == [112, 114, 105, 110, 116] then k (Out.ret (AVal.tuple [AVal.int .i64 1, AVal.int .i64 8, AVal.bool true]) [])
 else k (Out.ret (AVal.tuple [AVal.int .i64 0, AVal.int .i64 0, AVal.bool false]) [])
 else
 bif s == [111, 114] then
 bif s == [111, 114] then k (Out.ret (AVal.tuple [AVal.int .i64 2, AVal.int .i64 2, AVal.bool true]) [])
 else
 bif s == [112, 114, 105, 110, 116] then k (Out.ret (AVal.tuple [AVal.int .i64 1, AVal.int .i64 8, AVal.bool true]) [])
 else k (Out.ret (AVal.tuple [AVal.int .i64 0, AVal.int .i64 0, AVal.bool false]) [])
 else
 bif s == [106, 111, 105, 110] then
 bif s == [106, 111, 105, 110] then k (Out.ret (AVal.tuple [AVal.int .i64 2, AVal.int .i64 2, AVal.bool true]) [])
 else
 bif s == [112, 114, 105, 110, 116] then k (Out.ret (AVal.tuple [AVal.int .i64 1, AVal.int .i64 8, AVal.bool true]) [])
 else k (Out.ret (AVal.tuple [AVal.int .i64 0, AVal.int .i64 0, AVal.bool false]) [])
 else
 bif s == [100, 101, 102, 97, 117, 108, 116] then
 bif s == [100, 101, 102, 97, 117, 108, 116] then k (Out.ret (AVal.tuple [AVal.int .i64 2, AVal.int .i64 2, AVal.bool true]) [])
 else
 bif s == [112, 114, 105, 110, 116] then k (Out.ret (AVal.tuple [AVal.int .i64 1, AVal.int .i64 8, AVal.bool true]) [])
 else k (Out.ret (AVal.tuple [AVal.int .i64 0, AVal.int .i64 0, AVal.bool false]) [])
 else
 bif s == [105, 110, 100, 101, 120] then k (Out.ret (AVal.tuple [AVal.int .i64 2, AVal.int .i64 2, AVal.bool true]) [])
 else
 bif s == [112, 114, 105, 110, 116] then k (Out.ret (AVal.tuple [AVal.int .i64 1, AVal.int .i64 8, AVal.bool true]) [])
 else k (Out.ret (AVal.tuple [AVal.int .i64 0, AVal.int .i64 0, AVal.bool false]) [])
 else
 bif s == [108, 111, 119, 101, 114] then k (Out.ret (AVal.tuple [AVal.int .i64 1, AVal.int .i64 1, AVal.bool true]) [])
 else
 bif s == [101, 113] then
 bif s == [101, 113] then k (Out.ret (AVal.tuple [AVal.int .i64 2, AVal.int .i64 2, AVal.bool true]) [])
 else
 bif s == [112, 114, 105, 110, 116] then k (Out.ret (AVal.tuple [AVal.int .i64 1, AVal.int .i64 8, AVal.bool true]) [])
 else k (Out.ret (AVal.tuple [AVal.int .i64 0, AVal.int .i64 0, AVal.bool false]) [])
 else
 bif s == [108, 116] then
 bif s == [108, 116] then k (Out.ret (AVal.tuple [AVal.int .i64 2, AVal.int .i64 2, AVal.bool true]) [])
 else
 bif s == [112, 114, 105, 110, 116] then k (Out.ret (AVal.tuple [AVal.int .i64 1, AVal.int .i64 8, AVal.bool true]) [])
 else k (Out.ret (AVal.tuple [AVal.int .i64 0, AVal.int .i64 0, AVal.bool false]) [])
 else
 bif s == [97, 110, 100] then
 bif s == [97, 110, 100] then k (Out.ret (AVal.tuple [AVal.int .i64 2, AVal.int .i64 2, AVal.bool true]) [])
 else
 bif s == [112, 114, 105, 110, 116] then k (Out.ret (AVal.tuple [AVal.int .i64 1, AVal.int .i64 8, AVal.bool true]) [])
 else k (Out.ret (AVal.tuple [AVal.int .i64 0, AVal.int .i64 0, AVal.bool false]) [])
 else
 bif s == [111, 114] then
 bif s == [111, 114] then k (Out.ret (AVal.tuple [AVal.int .i64 2, AVal.int .i64 2, AVal.bool true]) [])
 else
 bif s == [112, 114, 105, 110, 116] then k (Out.ret (AVal.tuple [AVal.int .i64 1, AVal.int .i64 8, AVal.bool true]) [])
 else k (Out.ret (AVal.tuple [AVal.int .i64 0, AVal.int .i64 0, AVal.bool false]) [])
 else
 bif s == [106, 111, 105, 110] then
 bif s == [106, 111, 105, 110] then k (Out.ret (AVal.tuple [AVal.int .i64 2, AVal.int .i64 2, AVal.bool true]) [])
 else
 bif s == [112, 114, 105, 110, 116] then k (Out.ret (AVal.tuple [AVal.int .i64 1, AVal.int .i64 8, AVal.bool true]) [])
 else k (Out.ret (AVal.tuple [AVal.int .i64 0, AVal.int .i64 0, AVal.bool false]) [])
 else
 bif s == [100, 101, 102, 97, 117, 108, 116] then
 bif s == [100, 101, 102, 97, 117, 108, 116] then k (Out.ret (AVal.tuple [AVal.int .i64 2, AVal.int .i64 2, AVal.bool true]) [])
 else
 bif s == [112, 114, 105, 110, 116] then k (Out.ret (AVal.tuple [AVal.int .i64 1, AVal.int .i64 8, AVal.bool true]) [])
 else k (Out.ret (AVal.tuple [AVal.int .i64 0, AVal.int .i64 0, AVal.bool false]) [])
 else
 bif s == [105, 110, 100, 101, 120] then k (Out.ret (AVal.tuple [AVal.int .i64 2, AVal.int .i64 2, AVal.bool true]) [])
 else
 bif s == [112, 114, 105, 110, 116] then k (Out.ret (AVal.tuple [AVal.int .i64 1, AVal.int .i64 8, AVal.bool true]) [])
 else k (Out.ret (AVal.tuple [AVal.int .i64 0, AVal.int .i64 0, AVal.bool false]) [])
theorem arTree_eq (s : Oc) (k : Out → Ans) : arTree s k = k (.ret (.tuple [.int .i64 (ar s).1, .int .i64 (ar s).2.1, .bool (ar s).2.2]) []) := by
 unfold arTree ar
 generalize (s == [108, 101, 110]) = b0
 generalize (s == [110, 111, 116]) = b1
 generalize (s == [117, 112, 112, 101, 114]) = b2
 generalize (s == [108, 111, 119, 101, 114]) = b3
 generalize (s == [101, 113]) = b4
 generalize (s == [108, 116]) = b5
 generalize (s == [97, 110, 100]) = b6
 generalize (s == [111, 114]) = b7
 generalize (s == [106, 111, 105, 110]) = b8
 generalize (s == [100, 101, 102, 97, 117, 108, 116]) = b9
 generalize (s == [105, 110, 100, 101, 120]) = b10
 generalize (s == [112, 114, 105, 110, 116]) = b11
 cases b0 with | true => rfl | false => (cases b1 with | true => rfl | false => (cases b2 with | true => rfl | false => (cases b3 with | true => rfl | false => (cases b4 with | true => rfl | false => (cases b5 with | true => rfl | false => (cases b6 with | true => rfl | false => (cases b7 with | true => rfl | false => (cases b8 with | true => rfl | false => (cases b9 with | true => rfl | false => (cases b10 with | true => rfl | false => (cases b11 with | true => rfl | false => (rfl))))))))))))
theorem pArity_fun (s : Oc) (k : Out → Ans) : iFun Tryz.prog (layE.hd Tryz.prog) layE.fhs 0 100 [.str s] [] k = arTree s k := by kernel_rfl
theorem pArity_call (s : Oc) (k : Out → Ans) : iFun Tryz.prog (layE.hd Tryz.prog) layE.fhs 0 100 [.str s] [] k = k (.ret (.tuple [.int .i64 (ar s).1, .int .i64 (ar s).2.1, .bool (ar s).2.2]) []) := by
 rw [pArity_fun, arTree_eq]
def arTold : FSp := fun xs H k => match xs, H with
 | [.str s], [] => k (.ret (.tuple [.int .i64 (ar s).1, .int .i64 (ar s).2.1, .bool (ar s).2.2]) [])
 | _, _ => none
theorem pArTold_ok (xs : Vs) (H : Heap) (k : Out → Ans) (out : Out) (ho : arTold xs H k = some out) : ∃ o, CallOK Tryz.prog 100 xs H o ∧ k o = some out := by
 unfold arTold at ho
 split at ho
 · exact ⟨_, layE_ok.call (pArity_call _), ho⟩
 · simp at ho
structure CallD where
 name : Oc
 af : Bool
 args : List ArgD
def callD0 : CallD := ⟨[], true, []⟩
def encCall (c : CallD) : Vs := [.str c.name, encL c.af encArg argD0 c.args]
end Go.Mu
