/-
  Lemmas on the given program (part 5).
-/
import Derived.Test.YtchpbmjhpeghoaaGreatDoorTC4
import Derived.Test.YtchpbmjhpeghoaaGreatDoorProg
import Derived.KernelRfl
import Derived.Test.YtchpbmjhpeghoaaGreatDoorRows
import Derived.Lib.LaidU8
import Derived.Lib.LaidTab
set_option linter.unusedVariables false
set_option linter.unusedSimpArgs false
set_option maxRecDepth 100000
set_option maxHeartbeats 2000000
namespace Go.Mu
open Go Go.Proofs
def orI (n : Int) : Int := IntKind.u8.wrap (BitVec.ofInt 8 n ||| BitVec.ofInt 8 32).toNat
def ltrI (n : Int) : Bool := decide (orI n ≥ 97) && decide (orI n ≤ 122)
def ltr (c : UInt8) : Bool := (decide (97 ≤ c.toNat) && decide (c.toNat ≤ 122)) || (decide (65 ≤ c.toNat) && decide (c.toNat ≤ 90))
theorem ltrI_eq (c : UInt8) : ltrI (c.toNat : Int) = ltr c := by
 have h : ∀ n : Fin 256, ltrI ((UInt8.ofNat n).toNat : Int) = ltr (UInt8.ofNat n) := by decide +kernel
 have := h ⟨c.toNat, c.toNat_lt⟩
 simpa using this
def dig (c : UInt8) : Bool := decide (48 ≤ c.toNat) && decide (c.toNat ≤ 57)
def nmC (c : UInt8) : Bool := ltr c || c == 95 || dig c
theorem letter_fun (n : Int) (k : Out → Ans) : iFun Tryz.prog (Lay.nil.hd Tryz.prog) Lay.nil.fhs 0 83 [.int .u8 n] [] k = (
 let n0 : Int := IntKind.u8.wrap (↑(BitVec.ofInt 8 n ||| BitVec.ofInt 8 32).toNat : Int);
  k (Out.ret (AVal.bool (bif decide (n0 ≥ 97) then decide (n0 ≤ 122) else false)) [])) := by kernel_rfl
def letTold : FSp := mkFS [.i .u8] (fun _ => true) (fun xs k => k (.ret (.bool (ltrI (aI xs 0))) []))
theorem letTold_ok : ∀ xs H k out, letTold xs H k = some out → ∃ o, CallOK Tryz.prog 83 xs H o ∧ k o = some out := mkFS_ok fun ys xs e h => by
 obtain ⟨n, rfl⟩ : ∃ n, xs = [.int .u8 n] := ⟨_, e⟩
 refine ⟨_, fun k => rfl, Lay.nil_ok.callF (G := []) rfl (fun k => ?_)⟩
 rw [letter_fun]
 simp only [ltrI, bif_and]
 rfl
theorem gec {c : UInt8} {n : Nat} : decide ((c.toNat : Int) ≥ no_index (@OfNat.ofNat Int n _)) = decide (n ≤ c.toNat) := by
 have e : (@OfNat.ofNat Int n _) = ((n : Nat) : Int) := rfl
 rw [e]; exact decide_eq_decide.2 (by omega)
theorem lec {c : UInt8} {n : Nat} : decide ((c.toNat : Int) ≤ no_index (@OfNat.ofNat Int n _)) = decide (c.toNat ≤ n) := by
 have e : (@OfNat.ofNat Int n _) = ((n : Nat) : Int) := rfl
 rw [e]; exact decide_eq_decide.2 (by omega)
theorem ltc {c : UInt8} {n : Nat} : decide ((c.toNat : Int) < no_index (@OfNat.ofNat Int n _)) = !decide (n ≤ c.toNat) := by
 have e : (@OfNat.ofNat Int n _) = ((n : Nat) : Int) := rfl
 rw [e, ← decide_not]; exact decide_eq_decide.2 (by omega)
theorem gtc {c : UInt8} {n : Nat} : decide ((c.toNat : Int) > no_index (@OfNat.ofNat Int n _)) = !decide (c.toNat ≤ n) := by
 have e : (@OfNat.ofNat Int n _) = ((n : Nat) : Int) := rfl
 rw [e, ← decide_not]; exact decide_eq_decide.2 (by omega)
theorem nmC_eq (c : UInt8) : (ltr c || c == 95 || (decide (48 ≤ c.toNat) && decide (c.toNat ≤ 57))) = nmC c := rfl
abbrev wsT : Nat := 288
abbrev wdT : Nat := 244
abbrev HwP (U0 U1 U2 : Obj) (s : Oc) (base a : Int) (o : AVal) (O : Obj) : Heap := [U0, U1, U2, .var [.str s, .int .i64 base, .int .i64 a, o], .note wsT 4, O, .note wdT 0]
structure WdH where
 U0 : Obj
 U1 : Obj
 U2 : Obj
 s : Oc
 base : Int
 a : Int
 o : AVal
 O : Obj
abbrev WdH.heap (x : WdH) : Heap := HwP x.U0 x.U1 x.U2 x.s x.base x.a x.o x.O
def WdH.dec (H : Heap) : WdH := ⟨H.getD 0 (.var []), H.getD 1 (.var []), H.getD 2 (.var []), strOf ((cs3 H).getD 0 .undef), intOf ((cs3 H).getD 1 .undef), intOf ((cs3 H).getD 2 .undef), (cs3 H).getD 3 .undef, H.getD 5 (.var [])⟩
def WdOk (x : WdH) : Prop := x.s.length ≤ 1073741824 ∧ 0 ≤ x.base ∧ x.base ≤ 1099511627776
abbrev flt (at_ e : Int) : AVal := .iface 177 (.agg [.int .i64 at_, .int .i64 e])
def runN (t : Oc) : Nat := (t.takeWhile nmC).length
noncomputable def runSp : LSp := mkL (fun vs _ H => (WdH.dec H, (aI vs 1).toNat)) (fun x => WdOk x.1 ∧ x.2 ≤ x.1.s.length) (fun x => [.ptr (.hp 3) 0, .int .i64 x.2]) (fun _ => []) (fun x => x.1.heap) (fun x k => k (.exit 0) [.int .i64 ((x.2 + runN (x.1.s.drop x.2) : Nat) : Int)] [] x.1.heap)
noncomputable def runFH : FH := .of [(1, loopSpec 51 [0,1] [] [1] [] runSp)]
noncomputable def layD1 : Lay := layX3.addF 83 letTold
theorem layD1_ok : layD1.OK Tryz.prog := layX3_ok.addF letTold_ok
theorem run_step (U0 U1 U2 : Obj) (s : Oc) (base a : Int) (o : AVal) (O : Obj) (i : Int) (D : Dfs) (k : Kont) : lturn Tryz.prog layD1 runFH 294 1 [0,1] [] [1] [] (stL 51 [0,1] [.ptr (.hp 3) 0, .int .i64 i] [] [] (HwP U0 U1 U2 s base a o O) D) k = (
 let c0 : Bool := decide (i < (↑s.length : Int));
 let c1 : Bool := decide (0 ≤ i) && c0;
 let n2 : Int := (↑(s.getD i.toNat 0).toNat : Int);
 let c3 : Bool := ltrI n2;
 let c4 : Bool := bif c3 then true else n2 == 95;
 let c5 : Bool := c0 && !c4;
 let c6 : Bool := decide (n2 ≥ 48);
  bif c1 || !c0 then bif c1 || !(c0 && !c3) then bif c1 || !c5 then bif c1 || !(c5 && c6) then bif bif c0 then bif c4 then true else bif c6 then decide (n2 ≤ 57) else false else false then k AExit.normal (stL 51 [0, 1] [AVal.ptr (Oid.hp 3) 0, AVal.int .i64 (IntKind.i64.wrap (i + 1))] [] [] (HwP U0 U1 U2 s base a o O) D) else k (AExit.exit 0) (stL 51 [1] [AVal.int .i64 i] [] [] (HwP U0 U1 U2 s base a o O) D) else none else none else none else none) := by kernel_rfl
theorem runN_cons (c : UInt8) (t : Oc) : runN (c :: t) = bif nmC c then runN t + 1 else 0 := by
 unfold runN
 rw [List.takeWhile_cons]
 cases nmC c <;> simp
theorem runN_le (t : Oc) : runN t ≤ t.length := by
 unfold runN
 exact (List.takeWhile_prefix nmC).length_le
theorem run_runs (x : WdH) (hx : WdOk x) : ∀ (m i : Nat), x.s.length - i ≤ m → i ≤ x.s.length → LoopRuns (lturn Tryz.prog layD1 runFH 294 1 [0,1] [] [1] []) 51 [0,1] [] [1] [] [.ptr (.hp 3) 0, .int .i64 i] [] x.heap (.exit 0) [.int .i64 ((i + runN (x.s.drop i) : Nat) : Int)] [] x.heap := by
 obtain ⟨U0, U1, U2, s, base, a, o, O⟩ := x
 obtain ⟨h1, h2, h3⟩ := hx
 simp only at h1 h2 h3 ⊢
 intro m
 induction m with
 | zero =>
  intro i hm hi
  have e : s.drop i = [] := List.drop_eq_nil_of_le (by omega)
  rw [e]
  refine .stop (by simp) (fun D k => ?_)
  rw [run_step]
  simp (disch := omega) only [dF, cond_false, Bool.and_false, Bool.false_and, Bool.not_false, Bool.or_true, cond_true]
  rfl
 | succ m ih =>
  intro i hm hi
  by_cases hlt : i < s.length
  · have key := fun D k => run_step U0 U1 U2 s base a o O i D k
    have e2 : (i : Int) + 1 = ((i + 1 : Nat) : Int) := by omega
    simp (disch := first | omega | decide) only [Int.toNat_natCast, dT, cond_true, Bool.true_and, Bool.true_or, Bool.and_true, Bool.and_self, eqc, gec, lec, ltrI_eq, bif_or, bif_and, nmC_eq, wrap_of, e2] at key
    have ih2 := ih (i + 1) (by omega) (by omega)
    rw [drop_cons_of s i 0 hlt, runN_cons]
    cases hc : nmC (s.getD i 0) with
    | true =>
     simp only [hc, cond_true] at key
     rw [show i + 1 + runN (s.drop (i + 1)) = i + (runN (s.drop (i + 1)) + 1) by omega] at ih2
     exact .step key ih2
    | false =>
     simp only [hc, cond_false] at key
     exact .stop (by simp) key
  · have e : s.drop i = [] := List.drop_eq_nil_of_le (by omega)
    rw [e]
    refine .stop (by simp) (fun D k => ?_)
    rw [run_step]
    simp (disch := omega) only [dF, cond_false, Bool.and_false, Bool.false_and, Bool.not_false, Bool.or_true, cond_true]
    rfl
theorem runSp_ok : SpOK (lturn Tryz.prog layD1 runFH 294 1 [0,1] [] [1] []) 51 [0,1] [] [1] [] runSp := mkL_ok fun a h => ⟨_, _, _, _, fun k => rfl, run_runs a.1 h.1 _ a.2 (Nat.le_refl _) h.2⟩
noncomputable def layD2 : Lay := layD1.addL 294 runFH
theorem layD2_ok : layD2.OK Tryz.prog := layD1_ok.loop1 (id := 1) (by kernel_rfl) (by kernel_rfl) (by kernel_rfl) runSp_ok
theorem run_fun (U0 U1 U2 : Obj) (s : Oc) (base a : Int) (o : AVal) (O : Obj) (i : Int) (k : Out → Ans) : iFun Tryz.prog (layD2.hd Tryz.prog) layD2.fhs 0 294 [.ptr (.hp 3) 0, .int .i64 i] (HwP U0 U1 U2 s base a o O) k = (
 bif
 tst
 ((WdOk (WdH.mk U0 U1 U2 s base a o O) ∧ i.toNat ≤ s.length) ∧
 SubTL [AVal.ptr (Oid.hp 3) 0, AVal.int .i64 i]
 [AVal.ptr (Oid.hp 3) 0, AVal.int .i64 (↑i.toNat : Int)] ∧
 ([] : List (List AVal)) = [] ∧ HwP U0 U1 U2 s base a o O = (WdH.mk U0 U1 U2 s base a o O).heap) then
 k (Out.ret (AVal.int .i64 (↑(i.toNat + runN (List.drop i.toNat s)) : Int)) (WdH.mk U0 U1 U2 s base a o O).heap)
 else none) := by kernel_rfl
noncomputable def runTold : FSp := mkF (fun xs H => (WdH.dec H, (aI xs 1).toNat)) (fun x => WdOk x.1 ∧ x.2 ≤ x.1.s.length) (fun x => [.ptr (.hp 3) 0, .int .i64 x.2]) (fun x => x.1.heap) (fun x k => k (.ret (.int .i64 ((x.2 + runN (x.1.s.drop x.2) : Nat) : Int)) x.1.heap))
theorem runTold_ok : ∀ xs H k out, runTold xs H k = some out → ∃ o, CallOK Tryz.prog 294 xs H o ∧ k o = some out := mkF_ok fun x h => ⟨_, fun k => rfl, layD2_ok.call (fun k => by
 obtain ⟨⟨U0, U1, U2, s, base, a, o, O⟩, i⟩ := x
 show iFun _ _ _ 0 _ _ (HwP U0 U1 U2 s base a o O) k = _
 rw [run_fun]
 simp only [Int.toNat_natCast]
 refine (congrArg (fun c => cond c _ none) (tst_true ⟨h, .refl _, by trivial, by trivial⟩)).trans ?_
 rfl)⟩
noncomputable def layD3 : Lay := layD1.addF 294 runTold
theorem layD3_ok : layD3.OK Tryz.prog := layD1_ok.addF runTold_ok
theorem id_fun (U0 U1 U2 : Obj) (s : Oc) (base a : Int) (o : AVal) (O : Obj) (f at_ : Int) (k : Out → Ans) : iFun Tryz.prog (layD3.hd Tryz.prog) layD3.fhs 0 252 [.ptr (.hp 3) 0, .int .i64 f, .int .i64 at_] (HwP U0 U1 U2 s base a o O) k = (
 let c0 : Bool := decide (0 ≤ f) && decide (f < (↑s.length : Int));
 let n1 : Int := (↑(f.toNat + runN (List.drop f.toNat s)) : Int);
 let c2 : Bool := decide (n1 > f);
 let n3 : Int := (↑(s.getD f.toNat 0).toNat : Int);
 let c4 : Bool := decide (n3 < 48);
 let z0 := WdH.mk U0 U1 U2 s base a o O;
  bif tst ((WdOk z0 ∧ f.toNat ≤ s.length) ∧ SubL [AVal.ptr (Oid.hp 3) 0, AVal.int .i64 f] [AVal.ptr (Oid.hp 3) 0, AVal.int .i64 (↑f.toNat : Int)] ∧ HwP U0 U1 U2 s base a o O = z0.heap) then bif c0 || !c2 then bif c0 || !(c2 && !c4) then bif !bif c2 then bif c4 then true else decide (n3 > 57) else false then k (Out.panic (AVal.iface 177 (AVal.agg [AVal.int .i64 (IntKind.i64.wrap (base + at_)), AVal.int .i64 33])) z0.heap) else bif !decide (IntKind.i64.wrap (n1 - f) ≤ 32) then k (Out.panic (AVal.iface 177 (AVal.agg [AVal.int .i64 (IntKind.i64.wrap (base + at_)), AVal.int .i64 5])) z0.heap) else k (Out.ret (AVal.int .i64 n1) z0.heap) else none else none else none) := by kernel_rfl
def idE (t : Oc) : Int := bif !(decide (0 < runN t) && !dig (t.getD 0 0)) then 33 else bif !decide (runN t ≤ 32) then 5 else 0
noncomputable def idTold : FSp := mkF (fun xs H => (WdH.dec H, (aI xs 1).toNat, (aI xs 2).toNat)) (fun x => WdOk x.1 ∧ x.2.1 ≤ x.1.s.length ∧ x.2.2 ≤ x.1.s.length) (fun x => [.ptr (.hp 3) 0, .int .i64 x.2.1, .int .i64 x.2.2]) (fun x => x.1.heap)
 (fun x k => cond (idE (x.1.s.drop x.2.1) == 0) (k (.ret (.int .i64 ((x.2.1 + runN (x.1.s.drop x.2.1) : Nat) : Int)) x.1.heap)) (k (.panic (flt (x.1.base + x.2.2) (idE (x.1.s.drop x.2.1))) x.1.heap)))
theorem id_call (x : WdH) (f at_ : Nat) (hx : WdOk x) (hf : f ≤ x.s.length) (ha : at_ ≤ x.s.length) (k : Out → Ans) : iFun Tryz.prog (layD3.hd Tryz.prog) layD3.fhs 0 252 [.ptr (.hp 3) 0, .int .i64 f, .int .i64 at_] x.heap k =
 cond (idE (x.s.drop f) == 0) (k (.ret (.int .i64 ((f + runN (x.s.drop f) : Nat) : Int)) x.heap)) (k (.panic (flt (x.base + at_) (idE (x.s.drop f))) x.heap)) := by
 obtain ⟨U0, U1, U2, s, base, a, o, O⟩ := x
 have hx' := hx
 obtain ⟨h1, h2, h3⟩ := hx'
 simp only at h1 h2 h3 hf ha ⊢
 have hr := runN_le (s.drop f)
 rw [List.length_drop] at hr
 have key := id_fun U0 U1 U2 s base a o O f at_ k
 rw [key]
 clear key
 simp only [Int.toNat_natCast]
 refine (congrArg (fun c => cond c _ none) (tst_true ⟨⟨hx, hf⟩, .refl _, by trivial⟩)).trans ?_
 simp (disch := omega) only [cond_true, eqc, gtc, ltc, wrap_of]
 have hg : (s.drop f).getD 0 0 = s.getD f 0 := by rw [List.getD_drop]; rfl
 unfold idE
 rw [hg]
 generalize s.getD f 0 = c
 by_cases h0 : 0 < runN (s.drop f)
 · rw [dT (show ((f + runN (s.drop f) : Nat) : Int) > f by omega), dT h0]
   simp (disch := omega) only [dT, Bool.and_self, Bool.true_or, cond_true, Bool.true_and]
   have e : (bif !decide (48 ≤ c.toNat) then true else !decide (c.toNat ≤ 57)) = !dig c := by
    unfold dig
    cases decide (48 ≤ c.toNat) <;> cases decide (c.toNat ≤ 57) <;> rfl
   rw [e]
   cases dig c with
   | true => rfl
   | false =>
    simp only [Bool.not_false, Bool.not_true, cond_false]
    have e5 : decide (((f + runN (s.drop f) : Nat) : Int) - f ≤ 32) = decide (runN (s.drop f) ≤ 32) := decide_eq_decide.2 (by omega)
    rw [e5]
    cases decide (runN (s.drop f) ≤ 32) <;> rfl
 · rw [dF (show ¬ ((f + runN (s.drop f) : Nat) : Int) > f by omega), dF h0]
   simp only [Bool.not_false, Bool.or_true, cond_true, cond_false, Bool.false_and]
   rfl
theorem idTold_ok : ∀ xs H k out, idTold xs H k = some out → ∃ o, CallOK Tryz.prog 252 xs H o ∧ k o = some out := mkF_ok fun x h => by
 have key := fun k => id_call x.1 x.2.1 x.2.2 h.1 h.2.1 h.2.2 k
 show ∃ o, (∀ k : Out → Ans, cond (idE (x.1.s.drop x.2.1) == 0) _ _ = k o) ∧ _
 cases hb : idE (x.1.s.drop x.2.1) == 0 with
 | true => simp only [hb, cond_true] at key; exact ⟨_, fun k => rfl, layD3_ok.call key⟩
 | false => simp only [hb, cond_false] at key; exact ⟨_, fun k => rfl, layD3_ok.call key⟩
noncomputable def layD4 : Lay := (layX3.addF 83 letTold).addF 252 idTold
theorem layD4_ok : layD4.OK Tryz.prog := (layX3_ok.addF letTold_ok).addF idTold_ok
def dotsM : Nat → Oc → Int × Nat
 | 0, _ => (0, 0)
 | m + 1, t => bif decide (1 < t.length) && t.getD 0 0 == 46 then
  (bif idE (t.drop 1) == 0 then ((dotsM m (t.drop (1 + runN (t.drop 1)))).1, 1 + runN (t.drop 1) + (dotsM m (t.drop (1 + runN (t.drop 1)))).2) else (idE (t.drop 1), 0))
  else (0, 0)
noncomputable def dotsSp : LSp := mkL (fun vs _ H => (WdH.dec H, (aI vs 1).toNat, (aI vs 2).toNat)) (fun x => WdOk x.1 ∧ x.2.1 ≤ x.1.s.length ∧ x.2.2 ≤ x.1.s.length) (fun x => [.ptr (.hp 3) 0, .int .i64 x.2.1, .int .i64 x.2.2]) (fun _ => []) (fun x => x.1.heap)
 (fun x k => cond ((dotsM x.1.s.length (x.1.s.drop x.2.1)).1 == 0) (k (.exit 0) [.int .i64 ((x.2.1 + (dotsM x.1.s.length (x.1.s.drop x.2.1)).2 : Nat) : Int)] [] x.1.heap) (k (.panic (flt (x.1.base + x.2.2) (dotsM x.1.s.length (x.1.s.drop x.2.1)).1)) [.undef] [] x.1.heap))
noncomputable def dotsFH : FH := .of [(1, loopSpec 30 [0,1,2] [] [1] [] dotsSp)]
theorem dots_step (U0 U1 U2 : Obj) (s : Oc) (base a : Int) (o : AVal) (O : Obj) (i at_ : Int) (D : Dfs) (k : Kont) : lturn Tryz.prog layD4 dotsFH 295 1 [0,1,2] [] [1] [] (stL 30 [0,1,2] [.ptr (.hp 3) 0, .int .i64 i, .int .i64 at_] [] [] (HwP U0 U1 U2 s base a o O) D) k = (
 let n0 : Int := (↑s.length : Int);
 let n1 : Int := IntKind.i64.wrap (i + 1);
 let c2 : Bool := decide (n1 < n0);
 let m3 : Nat := n1.toNat;
 let n4 : Int := (↑at_.toNat : Int);
 let l5 : Oc := List.drop m3 s;
 let n6 : Int := idE l5;
 let z0 := WdH.mk U0 U1 U2 s base a o O;
  bif decide (0 ≤ i) && decide (i < n0) || !c2 then bif bif c2 then (↑(s.getD i.toNat 0).toNat : Int) == 46 else false then bif tst ((WdOk z0 ∧ m3 ≤ s.length ∧ at_.toNat ≤ s.length) ∧ SubL [AVal.ptr (Oid.hp 3) 0, AVal.int .i64 n1, AVal.int .i64 at_] [AVal.ptr (Oid.hp 3) 0, AVal.int .i64 (↑m3 : Int), AVal.int .i64 n4] ∧ HwP U0 U1 U2 s base a o O = z0.heap) then bif n6 == 0 then k AExit.normal (stL 30 [0, 1, 2] [AVal.ptr (Oid.hp 3) 0, AVal.int .i64 (↑(m3 + runN l5) : Int), AVal.int .i64 at_] [] [] z0.heap D) else k (AExit.panic (flt (base + n4) n6)) (stL 30 [1] [AVal.undef] [] [] z0.heap D) else none else k (AExit.exit 0) (stL 30 [1] [AVal.int .i64 i] [] [] (HwP U0 U1 U2 s base a o O) D) else none) := by kernel_rfl
theorem dotsM_fuel : ∀ (m n : Nat) (t : Oc), t.length ≤ m → t.length ≤ n → dotsM m t = dotsM n t
 | 0, 0, _, _, _ => rfl
 | 0, n + 1, t, h, _ => by
  have : t = [] := List.eq_nil_of_length_eq_zero (by omega)
  subst this; rfl
 | m + 1, 0, t, _, h => by
  have : t = [] := List.eq_nil_of_length_eq_zero (by omega)
  subst this; rfl
 | m + 1, n + 1, t, h1, h2 => by
  have hd : (t.drop (1 + runN (t.drop 1))).length = t.length - (1 + runN (t.drop 1)) := by simp
  by_cases h0 : t.length = 0
  · have : t = [] := List.eq_nil_of_length_eq_zero h0
    subst this; rfl
  · rw [dotsM, dotsM, dotsM_fuel m n _ (by omega) (by omega)]
theorem dotsM_le : ∀ (m : Nat) (t : Oc), (dotsM m t).2 ≤ t.length
 | 0, t => Nat.zero_le _
 | m + 1, t => by
  rw [dotsM]
  have := dotsM_le m (t.drop (1 + runN (t.drop 1)))
  have hr := runN_le (t.drop 1)
  rw [List.length_drop] at this hr
  cases hc : decide (1 < t.length) && t.getD 0 0 == 46 with
  | false => exact Nat.zero_le _
  | true =>
   rw [Bool.and_eq_true, decide_eq_true_eq] at hc
   cases idE (t.drop 1) == 0 with
   | false => exact Nat.zero_le _
   | true => simp only [cond_true]; omega
theorem dots_runs (x : WdH) (hx : WdOk x) (at_ : Nat) (ha : at_ ≤ x.s.length) : ∀ (m i : Nat), x.s.length - i ≤ m → i ≤ x.s.length →
 ((dotsM m (x.s.drop i)).1 = 0 → LoopRuns (lturn Tryz.prog layD4 dotsFH 295 1 [0,1,2] [] [1] []) 30 [0,1,2] [] [1] [] [.ptr (.hp 3) 0, .int .i64 i, .int .i64 at_] [] x.heap (.exit 0) [.int .i64 ((i + (dotsM m (x.s.drop i)).2 : Nat) : Int)] [] x.heap) ∧
 ((dotsM m (x.s.drop i)).1 ≠ 0 → LoopRuns (lturn Tryz.prog layD4 dotsFH 295 1 [0,1,2] [] [1] []) 30 [0,1,2] [] [1] [] [.ptr (.hp 3) 0, .int .i64 i, .int .i64 at_] [] x.heap (.panic (flt (x.base + at_) (dotsM m (x.s.drop i)).1)) [.undef] [] x.heap) := by
 have hx' := hx
 obtain ⟨U0, U1, U2, s, base, a, o, O⟩ := x
 obtain ⟨h1, h2, h3⟩ := hx'
 simp only at h1 h2 h3 ha ⊢
 intro m
 induction m with
 | zero =>
  intro i hm hi
  have e : s.drop i = [] := List.drop_eq_nil_of_le (by omega)
  rw [e]
  refine ⟨fun _ => .stop (by simp) (fun D k => ?_), fun h => absurd rfl h⟩
  rw [dots_step]
  simp (disch := omega) only [wrap_of]
  simp (disch := omega) only [dF, cond_false, Bool.and_false, Bool.false_and, Bool.not_false, Bool.or_true, cond_true]
  rfl
 | succ m ih =>
  intro i hm hi
  have key := fun D k => dots_step U0 U1 U2 s base a o O i at_ D k
  have e2 : (i : Int) + 1 = ((i + 1 : Nat) : Int) := by omega
  simp (disch := omega) only [wrap_of, e2, Int.toNat_natCast] at key
  have eg : (s.drop i).getD 0 0 = s.getD i 0 := by rw [List.getD_drop]; rfl
  have el : (s.drop i).length = s.length - i := by simp
  have ed : (s.drop i).drop 1 = s.drop (i + 1) := by rw [List.drop_drop]
  rw [dotsM, eg, el, ed]
  by_cases hlt : i + 1 < s.length
  · rw [dT (show 1 < s.length - i by omega), Bool.true_and]
    simp (disch := first | omega | decide) only [dT, cond_true, Bool.true_and, Bool.true_or, Bool.and_self, eqc] at key
    cases hc : s.getD i 0 == 46 with
    | false =>
     simp only [hc, cond_false] at key
     exact ⟨fun _ => .stop (by simp) key, fun h => absurd rfl h⟩
    | true =>
     simp only [hc, cond_true] at key
     have hr := runN_le (s.drop (i + 1))
     rw [List.length_drop] at hr
     have key2 := fun D k => (key D k).trans ((congrArg (fun c => cond c _ none) (tst_true ⟨⟨hx, show i + 1 ≤ s.length by omega, ha⟩, .refl _, by trivial⟩)).trans rfl)
     clear key
     have ih2 := ih (i + 1 + runN (s.drop (i + 1))) (by omega) (by omega)
     have edd : (s.drop i).drop (1 + runN (s.drop (i + 1))) = s.drop (i + 1 + runN (s.drop (i + 1))) := by rw [List.drop_drop]; congr 1; omega
     rw [edd]
     cases he : idE (s.drop (i + 1)) == 0 with
     | true =>
      simp only [he, cond_true] at key2 ⊢
      rw [show i + 1 + runN (s.drop (i + 1)) + (dotsM m (s.drop (i + 1 + runN (s.drop (i + 1))))).2 = i + (1 + runN (s.drop (i + 1)) + (dotsM m (s.drop (i + 1 + runN (s.drop (i + 1))))).2) by omega] at ih2
      exact ⟨fun h => .step key2 (ih2.1 h), fun h => .step key2 (ih2.2 h)⟩
     | false =>
      simp only [he, cond_false] at key2 ⊢
      refine ⟨fun h => absurd (show (idE (s.drop (i + 1)) == 0) = true from beq_iff_eq.2 h) (by rw [he]; decide), fun _ => .stop (by simp) key2⟩
  · rw [dF (show ¬ 1 < s.length - i by omega)]
    simp (disch := omega) only [dF, cond_false, Bool.and_false, Bool.false_and, Bool.not_false, Bool.or_true, cond_true] at key
    exact ⟨fun _ => .stop (by simp) key, fun h => absurd rfl h⟩
theorem dotsSp_ok : SpOK (lturn Tryz.prog layD4 dotsFH 295 1 [0,1,2] [] [1] []) 30 [0,1,2] [] [1] [] dotsSp := mkL_ok fun a h => by
 have key := dots_runs a.1 h.1 a.2.2 h.2.2 a.1.s.length a.2.1 (by omega) h.2.1
 show ∃ e vs bs H, (∀ k : AExit → List AVal → List (List AVal) → Heap → Ans, cond ((dotsM a.1.s.length (a.1.s.drop a.2.1)).1 == 0) _ _ = k e vs bs H) ∧ _
 cases hb : (dotsM a.1.s.length (a.1.s.drop a.2.1)).1 == 0 with
 | true => exact ⟨_, _, _, _, fun k => rfl, key.1 (by simpa using hb)⟩
 | false => exact ⟨_, _, _, _, fun k => rfl, key.2 (by simpa using hb)⟩
noncomputable def layD5 : Lay := layD4.addL 295 dotsFH
theorem layD5_ok : layD5.OK Tryz.prog := layD4_ok.loop1 (id := 1) (by kernel_rfl) (by kernel_rfl) (by kernel_rfl) dotsSp_ok
theorem dots_fun (U0 U1 U2 : Obj) (s : Oc) (base a : Int) (o : AVal) (O : Obj) (f at_ : Int) (k : Out → Ans) : iFun Tryz.prog (layD5.hd Tryz.prog) layD5.fhs 0 295 [.ptr (.hp 3) 0, .int .i64 f, .int .i64 at_] (HwP U0 U1 U2 s base a o O) k = (
 let n0 : Int := (↑at_.toNat : Int);
 let n1 : Int := (dotsM s.length (List.drop f.toNat s)).fst;
 let z0 := WdH.mk U0 U1 U2 s base a o O;
  bif tst ((WdOk z0 ∧ f.toNat ≤ s.length ∧ at_.toNat ≤ s.length) ∧ SubTL [AVal.ptr (Oid.hp 3) 0, AVal.int .i64 f, AVal.int .i64 at_] [AVal.ptr (Oid.hp 3) 0, AVal.int .i64 (↑f.toNat : Int), AVal.int .i64 n0] ∧ ([] : List (List AVal)) = [] ∧ HwP U0 U1 U2 s base a o O = z0.heap) then bif n1 == 0 then k (Out.ret (AVal.int .i64 (↑(f.toNat + (dotsM s.length (List.drop f.toNat s)).snd) : Int)) z0.heap) else k (Out.panic (flt (base + n0) n1) z0.heap) else none) := by kernel_rfl
noncomputable def dotsTold : FSp := mkF (fun xs H => (WdH.dec H, (aI xs 1).toNat, (aI xs 2).toNat)) (fun x => WdOk x.1 ∧ x.2.1 ≤ x.1.s.length ∧ x.2.2 ≤ x.1.s.length) (fun x => [.ptr (.hp 3) 0, .int .i64 x.2.1, .int .i64 x.2.2]) (fun x => x.1.heap)
 (fun x k => cond ((dotsM x.1.s.length (x.1.s.drop x.2.1)).1 == 0) (k (.ret (.int .i64 ((x.2.1 + (dotsM x.1.s.length (x.1.s.drop x.2.1)).2 : Nat) : Int)) x.1.heap)) (k (.panic (flt (x.1.base + x.2.2) (dotsM x.1.s.length (x.1.s.drop x.2.1)).1) x.1.heap)))
theorem dotsTold_ok : ∀ xs H k out, dotsTold xs H k = some out → ∃ o, CallOK Tryz.prog 295 xs H o ∧ k o = some out := mkF_ok fun x h => by
 obtain ⟨⟨U0, U1, U2, s, base, a, o, O⟩, f, at_⟩ := x
 have key := fun k => dots_fun U0 U1 U2 s base a o O f at_ k
 simp only [Int.toNat_natCast] at key
 replace key := fun k => (key k).trans ((congrArg (fun c => cond c _ none) (tst_true ⟨h, .refl _, by trivial, by trivial⟩)).trans rfl)
 show ∃ o, (∀ k : Out → Ans, cond ((dotsM s.length (s.drop f)).1 == 0) _ _ = k o) ∧ _
 cases hb : (dotsM s.length (s.drop f)).1 == 0 with
 | true => simp only [hb, cond_true] at key; exact ⟨_, fun k => rfl, layD5_ok.call key⟩
 | false => simp only [hb, cond_false, cond_true] at key; exact ⟨_, fun k => rfl, layD5_ok.call key⟩
noncomputable def layD6 : Lay := layD4.addF 295 dotsTold
theorem layD6_ok : layD6.OK Tryz.prog := layD4_ok.addF dotsTold_ok
theorem dot_fun (U0 U1 U2 : Obj) (s : Oc) (base a : Int) (o : AVal) (O : Obj) (at_ : Int) (k : Out → Ans) : iFun Tryz.prog (layD6.hd Tryz.prog) layD6.fhs 0 253 [.ptr (.hp 3) 0, .int .i64 at_] (HwP U0 U1 U2 s base a o O) k = (
 let n0 : Int := IntKind.i64.wrap (at_ + 1);
 let c1 : Bool := decide (n0 < (↑s.length : Int));
 let c2 : Bool := decide (0 ≤ n0) && c1;
 let n3 : Int := (↑(s.getD n0.toNat 0).toNat : Int);
 let c4 : Bool := ltrI n3;
 let n5 : Int := (↑at_.toNat : Int);
 let n6 : Int := (dotsM s.length (List.drop at_.toNat s)).fst;
 let z0 := WdH.mk U0 U1 U2 s base a o O;
  bif c2 || !c1 then bif c2 || !(c1 && !c4) then bif bif c1 then bif c4 then true else n3 == 95 else false then bif tst ((WdOk z0 ∧ at_.toNat ≤ s.length ∧ at_.toNat ≤ s.length) ∧ SubL [AVal.ptr (Oid.hp 3) 0, AVal.int .i64 at_, AVal.int .i64 at_] [AVal.ptr (Oid.hp 3) 0, AVal.int .i64 n5, AVal.int .i64 n5] ∧ HwP U0 U1 U2 s base a o O = z0.heap) then bif n6 == 0 then k (Out.ret (AVal.int .i64 (↑(at_.toNat + (dotsM s.length (List.drop at_.toNat s)).snd) : Int)) z0.heap) else k (Out.panic (flt (base + n5) n6) z0.heap) else none else k (Out.ret (AVal.int .i64 n0) (HwP U0 U1 U2 s base a o O)) else none else none) := by kernel_rfl
theorem dollar_fun (U0 U1 U2 : Obj) (s : Oc) (base a : Int) (o : AVal) (O : Obj) (at_ : Int) (k : Out → Ans) : iFun Tryz.prog (layD6.hd Tryz.prog) layD6.fhs 0 254 [.ptr (.hp 3) 0, .int .i64 at_] (HwP U0 U1 U2 s base a o O) k = (
 let n0 : Int := IntKind.i64.wrap (at_ + 1);
 let c1 : Bool := decide (n0 < (↑s.length : Int));
 let c2 : Bool := decide (0 ≤ n0) && c1;
 let m3 : Nat := n0.toNat;
 let n4 : Int := (↑(s.getD m3 0).toNat : Int);
 let c5 : Bool := ltrI n4;
 let n6 : Int := (↑at_.toNat : Int);
 let z0 := WdH.mk U0 U1 U2 s base a o O;
 let c7 : Bool := tst ((WdOk z0 ∧ m3 ≤ s.length ∧ at_.toNat ≤ s.length) ∧ SubL [AVal.ptr (Oid.hp 3) 0, AVal.int .i64 n0, AVal.int .i64 at_] [AVal.ptr (Oid.hp 3) 0, AVal.int .i64 (↑m3 : Int), AVal.int .i64 n6] ∧ HwP U0 U1 U2 s base a o O = z0.heap);
 let l8 : Oc := List.drop m3 s;
 let n9 : Int := idE l8;
 let n10 : Int := (↑(m3 + runN l8) : Int);
 let m11 : Nat := n10.toNat;
 let n12 : Int := (dotsM s.length (List.drop m11 s)).fst;
 let n13 : Int := base + n6;
 let n14 : Int := (dotsM s.length l8).fst;
  bif c2 || !c1 then bif c2 || !(c1 && !c5) then bif bif c1 then bif c5 then true else n4 == 95 else false then bif c7 then bif n9 == 0 then bif tst ((WdOk z0 ∧ m11 ≤ s.length ∧ at_.toNat ≤ s.length) ∧ SubL [AVal.ptr (Oid.hp 3) 0, AVal.int .i64 n10, AVal.int .i64 at_] [AVal.ptr (Oid.hp 3) 0, AVal.int .i64 (↑m11 : Int), AVal.int .i64 n6] ∧ z0.heap = z0.heap) then bif n12 == 0 then k (Out.ret (AVal.int .i64 (↑(m11 + (dotsM s.length (List.drop m11 s)).snd) : Int)) z0.heap) else k (Out.panic (flt n13 n12) z0.heap) else none else k (Out.panic (flt n13 n9) z0.heap) else none else bif c7 then bif n14 == 0 then k (Out.ret (AVal.int .i64 (↑(m3 + (dotsM s.length l8).snd) : Int)) z0.heap) else k (Out.panic (flt n13 n14) z0.heap) else none else none else none) := by kernel_rfl
def hd1 (t : Oc) : Bool := decide (1 < t.length) && (ltr (t.getD 1 0) || t.getD 1 0 == 95)
def dotM (t : Oc) : Int × Nat := bif hd1 t then dotsM t.length t else (0, 1)
def dollarM (t : Oc) : Int × Nat :=
 bif hd1 t then (bif idE (t.drop 1) == 0 then ((dotsM t.length (t.drop (1 + runN (t.drop 1)))).1, 1 + runN (t.drop 1) + (dotsM t.length (t.drop (1 + runN (t.drop 1)))).2) else (idE (t.drop 1), 0))
 else ((dotsM t.length (t.drop 1)).1, 1 + (dotsM t.length (t.drop 1)).2)
noncomputable def cutTold' (M : Oc → Int × Nat) : FSp := mkF (fun xs H => (WdH.dec H, (aI xs 1).toNat)) (fun x => WdOk x.1 ∧ x.2 < x.1.s.length) (fun x => [.ptr (.hp 3) 0, .int .i64 x.2]) (fun x => x.1.heap)
 (fun x k => cond ((M (x.1.s.drop x.2)).1 == 0) (k (.ret (.int .i64 ((x.2 + (M (x.1.s.drop x.2)).2 : Nat) : Int)) x.1.heap)) (k (.panic (flt (x.1.base + x.2) (M (x.1.s.drop x.2)).1) x.1.heap)))
theorem cutTold'_ok {f : FuncId} {M : Oc → Int × Nat} {L : Lay} (hL : L.OK Tryz.prog) (h : ∀ (x : WdH) (at_ : Nat), WdOk x → at_ < x.s.length → ∀ k, iFun Tryz.prog (L.hd Tryz.prog) L.fhs 0 f [.ptr (.hp 3) 0, .int .i64 at_] x.heap k =
 cond ((M (x.s.drop at_)).1 == 0) (k (.ret (.int .i64 ((at_ + (M (x.s.drop at_)).2 : Nat) : Int)) x.heap)) (k (.panic (flt (x.base + at_) (M (x.s.drop at_)).1) x.heap))) :
 ∀ xs H k out, cutTold' M xs H k = some out → ∃ o, CallOK Tryz.prog f xs H o ∧ k o = some out := mkF_ok fun x hx => by
 have key := h x.1 x.2 hx.1 hx.2
 show ∃ o, (∀ k : Out → Ans, cond ((M (x.1.s.drop x.2)).1 == 0) _ _ = k o) ∧ _
 cases hb : (M (x.1.s.drop x.2)).1 == 0 with
 | true => simp only [hb, cond_true] at key; exact ⟨_, fun k => rfl, hL.call key⟩
 | false => simp only [hb, cond_false] at key; exact ⟨_, fun k => rfl, hL.call key⟩
theorem hd1_drop (s : Oc) (at_ : Nat) : hd1 (s.drop at_) = (decide (((at_ + 1 : Nat) : Int) < s.length) && (ltr (s.getD (at_ + 1) 0) || s.getD (at_ + 1) 0 == 95)) := by
 unfold hd1
 rw [List.getD_drop, List.length_drop]
 rw [show decide (1 < s.length - at_) = decide (((at_ + 1 : Nat) : Int) < s.length) from decide_eq_decide.2 (by omega)]
theorem dot_call (x : WdH) (at_ : Nat) (hx : WdOk x) (ha : at_ < x.s.length) (k : Out → Ans) : iFun Tryz.prog (layD6.hd Tryz.prog) layD6.fhs 0 253 [.ptr (.hp 3) 0, .int .i64 at_] x.heap k =
 cond ((dotM (x.s.drop at_)).1 == 0) (k (.ret (.int .i64 ((at_ + (dotM (x.s.drop at_)).2 : Nat) : Int)) x.heap)) (k (.panic (flt (x.base + at_) (dotM (x.s.drop at_)).1) x.heap)) := by
 have hx' := hx
 obtain ⟨U0, U1, U2, s, base, a, o, O⟩ := x
 obtain ⟨h1, h2, h3⟩ := hx'
 simp only at h1 h2 h3 ha ⊢
 have e2 : (at_ : Int) + 1 = ((at_ + 1 : Nat) : Int) := by omega
 rw [dot_fun]
 have hf := dotsM_fuel s.length (s.drop at_).length (s.drop at_) (by simp) (Nat.le_refl _)
 unfold dotM
 rw [hd1_drop, ← hf]
 simp (disch := first | omega | decide) only [wrap_of, e2, Int.toNat_natCast, ltrI_eq, eqc, bif_or, bif_and]
 by_cases hlt : ((at_ + 1 : Nat) : Int) < s.length
 · simp (disch := omega) only [dT, Bool.true_and, Bool.true_or, cond_true]
   cases hc : ltr (s.getD (at_ + 1) 0) || s.getD (at_ + 1) 0 == 95 with
   | true =>
    simp only [cond_true]
    exact (congrArg (fun c => cond c _ none) (tst_true ⟨⟨hx, show at_ ≤ s.length by omega, by omega⟩, .refl _, by trivial⟩)).trans rfl
   | false => rfl
 · simp (disch := omega) only [dF, Bool.false_and, Bool.and_false, Bool.not_false, Bool.or_true, cond_true, cond_false]
   rfl
theorem dollar_call (x : WdH) (at_ : Nat) (hx : WdOk x) (ha : at_ < x.s.length) (k : Out → Ans) : iFun Tryz.prog (layD6.hd Tryz.prog) layD6.fhs 0 254 [.ptr (.hp 3) 0, .int .i64 at_] x.heap k =
 cond ((dollarM (x.s.drop at_)).1 == 0) (k (.ret (.int .i64 ((at_ + (dollarM (x.s.drop at_)).2 : Nat) : Int)) x.heap)) (k (.panic (flt (x.base + at_) (dollarM (x.s.drop at_)).1) x.heap)) := by
 have hx' := hx
 obtain ⟨U0, U1, U2, s, base, a, o, O⟩ := x
 obtain ⟨h1, h2, h3⟩ := hx'
 simp only at h1 h2 h3 ha ⊢
 have e2 : (at_ : Int) + 1 = ((at_ + 1 : Nat) : Int) := by omega
 rw [dollar_fun]
 unfold dollarM
 have ed : (s.drop at_).drop 1 = s.drop (at_ + 1) := by rw [List.drop_drop]
 have hr := runN_le (s.drop (at_ + 1))
 rw [List.length_drop] at hr
 rw [hd1_drop, ed]
 simp (disch := first | omega | decide) only [wrap_of, e2, Int.toNat_natCast, ltrI_eq, eqc, bif_or, bif_and]
 by_cases hlt : ((at_ + 1 : Nat) : Int) < s.length
 · simp (disch := omega) only [dT, Bool.true_and, Bool.true_or, cond_true]
   have ed2 : (s.drop at_).drop (1 + runN (s.drop (at_ + 1))) = s.drop (at_ + 1 + runN (s.drop (at_ + 1))) := by rw [List.drop_drop]; congr 1; omega
   rw [ed2, dotsM_fuel (s.drop at_).length s.length (s.drop (at_ + 1 + runN (s.drop (at_ + 1)))) (by simp; omega) (by simp), dotsM_fuel (s.drop at_).length s.length (s.drop (at_ + 1)) (by simp; omega) (by simp)]
   cases hc : ltr (s.getD (at_ + 1) 0) || s.getD (at_ + 1) 0 == 95 with
   | true =>
    simp only [cond_true]
    refine (congrArg (fun c => cond c _ none) (tst_true ⟨⟨hx, show at_ + 1 ≤ s.length by omega, by omega⟩, .refl _, by trivial⟩)).trans ?_
    simp only [cond_true]
    cases he : idE (s.drop (at_ + 1)) == 0 with
    | true =>
     simp only [cond_true]
     refine (congrArg (fun c => cond c _ none) (tst_true ⟨⟨hx, show at_ + 1 + runN (s.drop (at_ + 1)) ≤ s.length by omega, by omega⟩, .refl _, by trivial⟩)).trans ?_
     simp only [cond_true]
     rw [show at_ + 1 + runN (s.drop (at_ + 1)) + (dotsM s.length (s.drop (at_ + 1 + runN (s.drop (at_ + 1))))).2 = at_ + (1 + runN (s.drop (at_ + 1)) + (dotsM s.length (s.drop (at_ + 1 + runN (s.drop (at_ + 1))))).2) by omega]
    | false => simp only [cond_false, he]
   | false =>
    simp only [cond_false]
    refine (congrArg (fun c => cond c _ none) (tst_true ⟨⟨hx, show at_ + 1 ≤ s.length by omega, by omega⟩, .refl _, by trivial⟩)).trans ?_
    simp only [cond_true]
    rw [show at_ + 1 + (dotsM s.length (s.drop (at_ + 1))).2 = at_ + (1 + (dotsM s.length (s.drop (at_ + 1))).2) by omega]
 · simp (disch := omega) only [dF, Bool.false_and, Bool.and_false, Bool.not_false, Bool.or_true, cond_true, cond_false]
   rw [dotsM_fuel (s.drop at_).length s.length (s.drop (at_ + 1)) (by simp; omega) (by simp)]
   refine (congrArg (fun c => cond c _ none) (tst_true ⟨⟨hx, show at_ + 1 ≤ s.length by omega, by omega⟩, .refl _, by trivial⟩)).trans ?_
   simp only [cond_true]
   rw [show at_ + 1 + (dotsM s.length (s.drop (at_ + 1))).2 = at_ + (1 + (dotsM s.length (s.drop (at_ + 1))).2) by omega]
end Go.Mu
namespace Go.Mu
open Go Go.Proofs
noncomputable def layN1 : Lay := layX3.addF 293 ixfTold
theorem layN1_ok : layN1.OK Tryz.prog := layX3_ok.addF ixfTold_ok
theorem wrapU {n : Int} (h1 : 0 ≤ n) (h2 : n ≤ 18446744073709551615) : IntKind.u64.wrap n = n := by
 simp [IntKind.wrap, IntKind.signed, IntKind.bits]
 omega
theorem wrapB {n : Int} (h1 : 0 ≤ n) (h2 : n ≤ 255) : IntKind.u8.wrap n = n := by
 simp [IntKind.wrap, IntKind.signed, IntKind.bits]
 omega
theorem wrapI {n : Int} (h1 : -9223372036854775808 ≤ n) (h2 : n ≤ 9223372036854775807) : IntKind.i64.wrap n = n := by
 simp [IntKind.wrap, IntKind.signed, IntKind.bits]
 omega
def numL : Nat → Oc → Bool × Nat
 | n, [] => (false, n)
 | n, c :: t => bif decide (n * 10 + (c.toNat - 48) > 9223372036854775808) then (true, n) else numL (n * 10 + (c.toNat - 48)) t
abbrev byL (f : Bool) (l : Oc) : AVal := .list f l.length (fun i => byteRow (l.getD i 0))
def Digs (l : Oc) : Prop := ∀ c ∈ l, dig c = true
structure NuA where
 b : Bool
 n : Nat
 f : Bool
 l : Oc
 i : Nat
 H : Heap
noncomputable def numSp : LSp := mkL (fun vs _ H => NuA.mk (aB vs 0) (aI vs 1).toNat (fullOf (vs.getD 2 .undef)) (decL decB (vs.getD 2 .undef)) (aI vs 4).toNat H) (fun a => a.i ≤ a.l.length ∧ a.l.length ≤ 1099511627776 ∧ a.n ≤ 9223372036854775808 ∧ Digs a.l) (fun a => [.bool a.b, .int .u64 a.n, byL a.f a.l, .int .i64 a.l.length, .int .i64 a.i]) (fun _ => []) (fun a => a.H)
 (fun a k => cond (numL a.n (a.l.drop a.i)).1 (k .ret [.int .i64 0, .int .i64 4, .bool a.b, .int .u64 (numL a.n (a.l.drop a.i)).2] [] a.H) (k (.exit 0) [.undef, .undef, .bool a.b, .int .u64 (numL a.n (a.l.drop a.i)).2] [] a.H))
noncomputable def numFH : FH := .of [(8, loopSpec 63 [5,6,34,35,36] [] [2,3,5,6] [] numSp)]
theorem num_step (b : Bool) (n : Int) (f : Bool) (l : Oc) (m i : Int) (H : Heap) (D : Dfs) (k : Kont) : lturn Tryz.prog layN1 numFH 194 8 [5,6,34,35,36] [] [2,3,5,6] [] (stL 63 [5,6,34,35,36] [.bool b, .int .u64 n, byL f l, .int .i64 m, .int .i64 i] [] [] H D) k = (
 let n0 : Int := IntKind.u64.wrap (IntKind.u8.wrap ((↑(l.getD i.toNat 0).toNat : Int) - 48));
 let n1 : Int := IntKind.u64.wrap (9223372036854775808 - n0);
  bif decide (i < m) then bif decide (0 ≤ i) && decide (i < (↑l.length : Int)) then bif !(n1 == n1 && false) then bif decide (n > IntKind.u64.wrap (n1.tdiv 10)) then k AExit.ret (stL 63 [2, 3, 5, 6] [AVal.int .i64 0, AVal.int .i64 4, AVal.bool b, AVal.int .u64 n] [] [] H D) else k AExit.normal (stL 63 [5, 6, 34, 35, 36] [AVal.bool b, AVal.int .u64 (IntKind.u64.wrap (IntKind.u64.wrap (n * 10) + n0)), AVal.list f l.length fun i => [AVal.int .u8 (↑(l.getD i 0).toNat : Int)], AVal.int .i64 m, AVal.int .i64 (IntKind.i64.wrap (i + 1))] [] [] H D) else none else none else k (AExit.exit 0) (stL 63 [2, 3, 5, 6] [AVal.undef, AVal.undef, AVal.bool b, AVal.int .u64 n] [] [] H D)) := by kernel_rfl
theorem num_runs (b f : Bool) (l : Oc) (hl : l.length ≤ 1099511627776) (hd : ∀ c ∈ l, dig c = true) (H : Heap) : ∀ (m i n : Nat), l.length - i ≤ m → i ≤ l.length → n ≤ 9223372036854775808 →
 ((numL n (l.drop i)).1 = true → LoopRuns (lturn Tryz.prog layN1 numFH 194 8 [5,6,34,35,36] [] [2,3,5,6] []) 63 [5,6,34,35,36] [] [2,3,5,6] [] [.bool b, .int .u64 n, byL f l, .int .i64 l.length, .int .i64 i] [] H .ret [.int .i64 0, .int .i64 4, .bool b, .int .u64 (numL n (l.drop i)).2] [] H) ∧
 ((numL n (l.drop i)).1 = false → LoopRuns (lturn Tryz.prog layN1 numFH 194 8 [5,6,34,35,36] [] [2,3,5,6] []) 63 [5,6,34,35,36] [] [2,3,5,6] [] [.bool b, .int .u64 n, byL f l, .int .i64 l.length, .int .i64 i] [] H (.exit 0) [.undef, .undef, .bool b, .int .u64 (numL n (l.drop i)).2] [] H) := by
 intro m
 induction m with
 | zero =>
  intro i n hm hi hn
  have e : l.drop i = [] := List.drop_eq_nil_of_le (by omega)
  rw [e]
  refine ⟨fun h => by simp [numL] at h, fun _ => .stop (by simp) (fun D k => ?_)⟩
  rw [num_step]
  simp (disch := omega) only [dF, cond_false]
  rfl
 | succ m ih =>
  intro i n hm hi hn
  by_cases hlt : i < l.length
  · have key := fun D k => num_step b n f l l.length i H D k
    have ed := drop_cons_of l i 0 hlt
    have hc := hd (l.getD i 0) (by rw [List.getD_eq_getElem?_getD, List.getElem?_eq_getElem hlt]; exact List.getElem_mem _)
    have e2 : IntKind.i64.wrap ((i : Int) + 1) = ((i + 1 : Nat) : Int) := by rw [wrap_of (by omega) (by omega)]; omega
    rw [ed, numL]
    simp only [Int.toNat_natCast, e2] at key
    obtain ⟨c, hcc⟩ : ∃ c, c = l.getD i 0 := ⟨_, rfl⟩
    simp only [← hcc] at key hc ⊢
    unfold dig at hc
    rw [Bool.and_eq_true, decide_eq_true_eq, decide_eq_true_eq] at hc
    have e3 : IntKind.u64.wrap (IntKind.u8.wrap ((c.toNat : Int) - 48)) = ((c.toNat - 48 : Nat) : Int) := by rw [wrapB (by omega) (by omega), wrapU (by omega) (by omega)]; omega
    obtain ⟨d, hd'⟩ : ∃ d, d = c.toNat - 48 := ⟨_, rfl⟩
    rw [← hd'] at e3
    simp only [← hd'] at key ⊢
    simp only [e3] at key
    have e4 : IntKind.u64.wrap (9223372036854775808 - (d : Int)) = 9223372036854775808 - (d : Int) := wrapU (by omega) (by omega)
    simp only [e4, Bool.and_false, Bool.not_false, cond_true] at key
    have e5 : (9223372036854775808 - (d : Int)).tdiv 10 = (9223372036854775808 - (d : Int)) / 10 := Int.tdiv_eq_ediv_of_nonneg (by omega)
    have e6 : decide ((n : Int) > IntKind.u64.wrap ((9223372036854775808 - (d : Int)).tdiv 10)) = decide (n * 10 + d > 9223372036854775808) := by
     rw [e5, wrapU (by omega) (by omega)]
     exact decide_eq_decide.2 (by omega)
    simp only [e6] at key
    simp (disch := omega) only [dT, cond_true, Bool.and_self] at key
    by_cases hov : n * 10 + d > 9223372036854775808
    · simp (disch := omega) only [dT, cond_true] at key ⊢
      exact ⟨fun _ => .stop (by simp) key, fun h => by cases h⟩
    · have e7 : IntKind.u64.wrap (IntKind.u64.wrap ((n : Int) * 10) + (d : Int)) = ((n * 10 + d : Nat) : Int) := by
       rw [wrapU (n := (n : Int) * 10) (by omega) (by omega), wrapU (by omega) (by omega)]; omega
      simp (disch := omega) only [dF, cond_false, e7] at key ⊢
      have := ih (i + 1) (n * 10 + d) (by omega) (by omega) (by omega)
      exact ⟨fun h => .step key (this.1 h), fun h => .step key (this.2 h)⟩
  · have e : l.drop i = [] := List.drop_eq_nil_of_le (by omega)
    rw [e]
    refine ⟨fun h => by simp [numL] at h, fun _ => .stop (by simp) (fun D k => ?_)⟩
    rw [num_step]
    simp (disch := omega) only [dF, cond_false]
    rfl
theorem numSp_ok : SpOK (lturn Tryz.prog layN1 numFH 194 8 [5,6,34,35,36] [] [2,3,5,6] []) 63 [5,6,34,35,36] [] [2,3,5,6] [] numSp := mkL_ok fun a h => by
 have key := num_runs a.b a.f a.l h.2.1 h.2.2.2 a.H _ a.i a.n (Nat.le_refl _) h.1 h.2.2.1
 show ∃ e vs bs H, (∀ k : AExit → List AVal → List (List AVal) → Heap → Ans, cond (numL a.n (a.l.drop a.i)).1 _ _ = k e vs bs H) ∧ _
 cases hb : (numL a.n (a.l.drop a.i)).1 with
 | true => exact ⟨_, _, _, _, fun k => rfl, key.1 hb⟩
 | false => exact ⟨_, _, _, _, fun k => rfl, key.2 hb⟩
noncomputable def layN2 : Lay := layN1.addL 194 numFH
theorem layN2_ok : layN2.OK Tryz.prog := layN1_ok.loop1 (id := 8) (by kernel_rfl) (by kernel_rfl) (by kernel_rfl) numSp_ok
theorem num_fun (s : Oc) (k : Out → Ans) (n0 : Int) (e_n0 : n0 = ((↑s.length : Int)))
 (c1 : Bool) (e_c1 : c1 = (decide (Lib.idxFunc ndR true (ByteArray.mk (Array.mk s)) ≥ 0)))
 (l2 : Oc) (e_l2 : l2 = (decL (fun (r : List AVal) => byteOf r)
  (AVal.list false s.length fun i => [AVal.int .u8 (↑(s.getD i 0).toNat : Int)])))
 (m3 : Nat) (e_m3 : m3 = (l2.length))
 (n4 : Int) (e_n4 : n4 = ((↑(numL (Int.toNat 0) (List.drop (Int.toNat 0) l2)).snd : Int)))
 (l5 : Oc) (e_l5 : l5 = (List.drop (Int.toNat 1) (List.take n0.toNat s)))
 (m6 : Nat) (e_m6 : m6 = (l5.length))
 (n7 : Int) (e_n7 : n7 = ((↑m6 : Int)))
 (c8 : Bool) (e_c8 : c8 = (decide (Lib.idxFunc ndR true (ByteArray.mk (Array.mk l5)) ≥ 0)))
 (l9 : Oc) (e_l9 : l9 = (decL (fun (r : List AVal) => byteOf r)
  (AVal.list false m6 fun (i : Nat) =>
   [AVal.int .u8 (↑((List.drop (Int.toNat 1) (List.take (↑s.length : Int).toNat s)).getD i 0).toNat : Int)])))
 (m10 : Nat) (e_m10 : m10 = (l9.length)) : iFun Tryz.prog (layN2.hd Tryz.prog) layN2.fhs 0 194 [.str s] [] k = (
 let z0 := Out.ret (AVal.tuple [AVal.int .i64 0, AVal.int .i64 4]) [];
 let z1 := Out.ret (AVal.tuple [AVal.int .i64 0, AVal.int .i64 33]) [];
 let z2 := Out.ret (AVal.tuple [AVal.int .i64 0, AVal.int .i64 8]) [];
 let z3 := numL (Int.toNat 0) (List.drop (Int.toNat 0) l9);
  bif ![45].isPrefixOf s then bif s == [] then k z2 else bif decide (0 < n0) || !!c1 then bif bif c1 then true else bif (↑(s.getD 0 0).toNat : Int) == 48 then decide (n0 > 1) else false then k z1 else bif tst ((Int.toNat 0 ≤ m3 ∧ m3 ≤ 1099511627776 ∧ Int.toNat 0 ≤ 9223372036854775808 ∧ Digs l2) ∧ SubTL [AVal.bool false, AVal.int .u64 0, AVal.list false s.length fun i => [AVal.int .u8 (↑(s.getD i 0).toNat : Int)], AVal.int .i64 n0, AVal.int .i64 0] [AVal.bool false, AVal.int .u64 (↑(Int.toNat 0) : Int), byL false l2, AVal.int .i64 (↑m3 : Int), AVal.int .i64 (↑(Int.toNat 0) : Int)] ∧ ([] : List (List AVal)) = [] ∧ ([] : Heap) = []) then bif (numL (Int.toNat 0) (List.drop (Int.toNat 0) l2)).fst then k z0 else bif decide (n4 > 9223372036854775807) then k z0 else k (Out.ret (AVal.tuple [AVal.int .i64 (IntKind.i64.wrap n4), AVal.int .i64 0]) []) else none else none else bif decide (1 ≤ n0) && decide (n0 ≤ n0) then bif l5 == [] then k z2 else bif decide (0 < n7) || !!c8 then bif bif c8 then true else bif (↑(l5.getD 0 0).toNat : Int) == 48 then true else false then k z1 else bif tst ((Int.toNat 0 ≤ m10 ∧ m10 ≤ 1099511627776 ∧ Int.toNat 0 ≤ 9223372036854775808 ∧ Digs l9) ∧ SubTL [AVal.bool true, AVal.int .u64 0, AVal.list false m6 fun i => [AVal.int .u8 (↑((List.drop (Int.toNat 1) (List.take (↑s.length : Int).toNat s)).getD i 0).toNat : Int)], AVal.int .i64 n7, AVal.int .i64 0] [AVal.bool true, AVal.int .u64 (↑(Int.toNat 0) : Int), byL false l9, AVal.int .i64 (↑m10 : Int), AVal.int .i64 (↑(Int.toNat 0) : Int)] ∧ ([] : List (List AVal)) = [] ∧ ([] : Heap) = []) then bif z3.fst then k z0 else k (Out.ret (AVal.tuple [AVal.int .i64 (IntKind.i64.wrap (IntKind.u64.wrap (0 - (↑z3.snd : Int)))), AVal.int .i64 0]) []) else none else none else none) := by
  subst e_n0 e_c1 e_l2 e_m3 e_n4 e_l5 e_m6 e_n7 e_c8 e_l9 e_m10
  kernel_rfl
def numM (s : Oc) : Int × Int :=
 bif [45].isPrefixOf s then
  (bif s.drop 1 == [] then (0, 8) else bif (s.drop 1).any ndC || (s.drop 1).getD 0 0 == 48 then (0, 33) else bif (numL 0 (s.drop 1)).1 then (0, 4) else (-((numL 0 (s.drop 1)).2 : Int), 0))
 else (bif s == [] then (0, 8) else bif s.any ndC || (s.getD 0 0 == 48 && decide (1 < s.length)) then (0, 33) else bif (numL 0 s).1 then (0, 4) else bif decide ((numL 0 s).2 > 9223372036854775807) then (0, 4) else ((numL 0 s).2, 0))
theorem numL_le : ∀ (t : Oc) (n : Nat), n ≤ 9223372036854775808 → (numL n t).2 ≤ 9223372036854775808
 | [], n, h => h
 | c :: t, n, h => by
  rw [numL]
  by_cases hb : n * 10 + (c.toNat - 48) > 9223372036854775808
  · rw [dT hb]; exact h
  · rw [dF hb]; exact numL_le t _ (by omega)
theorem wrapNeg {n : Nat} (h : n ≤ 9223372036854775808) : IntKind.i64.wrap (IntKind.u64.wrap (0 - (n : Int))) = -(n : Int) := by
 simp [IntKind.wrap, IntKind.signed, IntKind.bits]
 omega
theorem idx_any (l : Oc) : decide (Lib.idxFunc ndR true ⟨⟨l⟩⟩ ≥ 0) = l.any ndC := by
 have h := idxF_any l l.length 0 (by omega)
 rw [List.drop_zero] at h
 have hs : (⟨⟨l⟩⟩ : ByteArray).size = l.length := by simp [ByteArray.size]
 unfold Lib.idxFunc
 rw [hs]
 exact h
theorem nd_dig (c : UInt8) : ndC c = !dig c := by
 unfold ndC ndR dig
 rw [Bool.eq_iff_iff]
 simp only [Bool.or_eq_true, decide_eq_true_eq, Bool.not_eq_true', Bool.and_eq_false_iff, decide_eq_false_iff_not]
 omega
theorem digs_of {l : Oc} (h : l.any ndC = false) : Digs l := fun c hc => by
 rw [List.any_eq_false] at h
 have := h c hc
 rw [nd_dig] at this
 simpa using this
theorem num_call (s : Oc) (hs : s.length ≤ 1099511627776) (k : Out → Ans) : iFun Tryz.prog (layN2.hd Tryz.prog) layN2.fhs 0 194 [.str s] [] k = k (.ret (.tuple [.int .i64 (numM s).1, .int .i64 (numM s).2]) []) := by
 have e1 : (s.take ((s.length : Nat) : Int).toNat).drop (Int.toNat 1) = s.drop 1 := by rw [Int.toNat_natCast, List.take_length]; rfl
 have hd : (s.drop 1).length ≤ s.length := by simp
 have key := num_fun s k _ rfl (s.any ndC) (idx_any s).symm s (decL_encL (d := 0) (full := false) decB_enc s).symm _ rfl _ rfl (s.drop 1) e1.symm _ rfl _ rfl ((s.drop 1).any ndC) (idx_any _).symm (s.drop 1) (by rw [e1]; exact (decL_encL (d := 0) (full := false) decB_enc (s.drop 1)).symm) _ rfl
 rw [key]
 clear key
 rw [e1]
 unfold numM
 cases hp : [45].isPrefixOf s with
 | false =>
  simp only [Bool.not_false, cond_true, cond_false]
  cases s with
  | nil => rfl
  | cons c t =>
   have hne : ((c :: t) == []) = false := rfl
   simp only [hne, cond_false]
   have hl : (c :: t).length ≥ 1 := by simp
   generalize c :: t = s at *
   simp (disch := first | omega | decide) only [dT, Bool.true_or, cond_true, eqc, bif_or, bif_and]
   rw [show decide ((s.length : Int) > 1) = decide (1 < s.length) from decide_eq_decide.2 (by omega)]
   cases hb : s.any ndC || (s.getD 0 0 == 48 && decide (1 < s.length)) with
   | true => rfl
   | false =>
    simp only [cond_false]
    rw [Bool.or_eq_false_iff] at hb
    refine (congrArg (fun c => cond c _ none) (tst_true ⟨⟨Nat.zero_le _, hs, Nat.zero_le _, digs_of hb.1⟩, .refl _, by trivial, by trivial⟩)).trans ?_
    simp only [cond_true, Int.toNat_zero, List.drop_zero]
    have hn := numL_le s 0 (by omega)
    cases (numL 0 s).1 with
    | true => rfl
    | false =>
     simp only [cond_false]
     rw [show decide (((numL 0 s).2 : Int) > 9223372036854775807) = decide ((numL 0 s).2 > 9223372036854775807) from decide_eq_decide.2 (by omega)]
     by_cases hg : (numL 0 s).2 > 9223372036854775807
     · rw [dT hg]; rfl
     · rw [dF hg]
       simp only [cond_false]
       rw [wrapI (by omega) (by omega)]
 | true =>
  have hl := pre_len hp
  simp only [List.length_cons, List.length_nil] at hl
  simp only [Bool.not_true, cond_true, cond_false]
  simp (disch := omega) only [dT, Bool.and_self, cond_true]
  generalize s.drop 1 = u at *
  cases u with
  | nil => rfl
  | cons c t =>
   have hne : ((c :: t) == []) = false := rfl
   simp only [hne, cond_false]
   have hl : (c :: t).length ≥ 1 := by simp
   generalize c :: t = s at *
   simp (disch := first | omega | decide) only [dT, Bool.true_or, cond_true, eqc, bif_or, bif_and, Bool.and_true]
   cases hb : s.any ndC || s.getD 0 0 == 48 with
   | true => rfl
   | false =>
    simp only [cond_false]
    rw [Bool.or_eq_false_iff] at hb
    refine (congrArg (fun c => cond c _ none) (tst_true ⟨⟨Nat.zero_le _, by omega, Nat.zero_le _, digs_of hb.1⟩, .refl _, by trivial, by trivial⟩)).trans ?_
    simp only [cond_true, Int.toNat_zero, List.drop_zero]
    have hn := numL_le s 0 (by omega)
    cases (numL 0 s).1 with
    | true => rfl
    | false =>
     simp only [cond_false]
     rw [wrapNeg hn]
def numTold : FSp := mkFS [.s] (fun xs => decide ((aS xs 0).length ≤ 1099511627776)) (fun xs k => k (.ret (.tuple [.int .i64 (numM (aS xs 0)).1, .int .i64 (numM (aS xs 0)).2]) []))
theorem numTold_ok : ∀ xs H k out, numTold xs H k = some out → ∃ o, CallOK Tryz.prog 194 xs H o ∧ k o = some out := mkFS_ok fun ys xs e h => by
 obtain ⟨s, rfl⟩ : ∃ s, xs = [.str s] := ⟨_, e⟩
 exact ⟨_, fun k => rfl, layN2_ok.callF (G := []) rfl (fun k => num_call s (of_decide_eq_true h) k)⟩
end Go.Mu
namespace Go.Mu
open Go Go.Proofs
abbrev bdT : Nat := 53
structure Bld where
 ad : AVal
 b : AVal
 rows : List (List AVal)
 v : Nat
def Bld.can (i j : Nat) (x : Bld) : Prop := (x.ad = .nilptr ∨ x.ad = .ptr (.hp i) 0) ∧ x.rows = (bytesOf x.rows).map byteRow ∧ x.b = bfB j (bytesOf x.rows) x.v
abbrev Bld.t (x : Bld) : Oc := bytesOf x.rows
def Bld.add (i j : Nat) (x : Bld) (l : Oc) : Bld := ⟨.ptr (.hp i) 0, bfB j (x.t ++ l) (wsV x.t l x.v), x.rows ++ l.map byteRow, wsV x.t l x.v⟩
theorem Bld.add_t (i j : Nat) (x : Bld) (l : Oc) : (Bld.add i j x l).t = x.t ++ l := by
 show bytesOf (x.rows ++ l.map byteRow) = _
 have := bytesOf_map l
 unfold bytesOf at this
 show (x.rows ++ l.map byteRow).map byteOf = x.rows.map byteOf ++ l
 rw [List.map_append, this]
theorem Bld.add_can {i j : Nat} {x : Bld} (h : x.can i j) (l : Oc) : (Bld.add i j x l).can i j := by
 refine ⟨.inr rfl, ?_, ?_⟩
 · show (Bld.add i j x l).rows = ((Bld.add i j x l).t).map byteRow
   rw [Bld.add_t, List.map_append, ← h.2.1]; rfl
 · show (Bld.add i j x l).b = bfB j ((Bld.add i j x l).t) _
   rw [Bld.add_t]; rfl
def Bld.dead (x : Bld) : Bld := { x with rows := [], v := bif x.t == [] then x.v else x.v + 1 }
def Bld.new : Bld := ⟨.nilptr, .nilX, [], 0⟩
theorem Bld.new_can (i j : Nat) : Bld.new.can i j := ⟨.inl rfl, rfl, rfl⟩
abbrev bld (H : Heap) (i j : Nat) : Bld := ⟨(cellsO (H.getD i (.var []))).getD 0 .undef, (cellsO (H.getD i (.var []))).getD 1 .undef, rowsO (H.getD j (.var [])), verO (H.getD j (.var []))⟩
end Go.Mu
namespace Go.Mu
open Go Go.Proofs
abbrev b7P (P0 P1 P2 P3 P4 P5 P6 : Obj) (ad b : AVal) (O : Obj) : Heap := [P0, P1, P2, P3, P4, P5, P6, .var [ad, b], .note bdT 2, O, .note bT 0]
structure b7H where
 P0 : Obj
 P1 : Obj
 P2 : Obj
 P3 : Obj
 P4 : Obj
 P5 : Obj
 P6 : Obj
 x : Bld
abbrev b7H.heap (x : b7H) : Heap := b7P x.P0 x.P1 x.P2 x.P3 x.P4 x.P5 x.P6 x.x.ad x.x.b (.arr 1 x.x.rows x.x.v)
def b7H.dec (H : Heap) : b7H := ⟨H.getD 0 (.var []), H.getD 1 (.var []), H.getD 2 (.var []), H.getD 3 (.var []), H.getD 4 (.var []), H.getD 5 (.var []), H.getD 6 (.var []), bld H 7 9⟩
theorem b7_ws0 (P0 P1 P2 P3 P4 P5 P6 : Obj) (O : Obj) (k : Out → Ans) : iFun Tryz.prog (layW0.hd Tryz.prog) layW0.fhs 0 22 [.ptr (.hp 7) 0, .str []] (b7P P0 P1 P2 P3 P4 P5 P6 .nilptr .nilX O) k = (
 k
 (Out.ret (AVal.tuple [AVal.int .i64 0, AVal.nilIface])
  [P0, P1, P2, P3, P4, P5, P6, Obj.var [AVal.ptr (Oid.hp 7) 0, AVal.nilX], Obj.note 53 2, O, Obj.note 5 0])) := by kernel_rfl
theorem b7_ws1 (P0 P1 P2 P3 P4 P5 P6 : Obj) (O : Obj) (k : Out → Ans) : iFun Tryz.prog (layW0.hd Tryz.prog) layW0.fhs 0 22 [.ptr (.hp 7) 0, .str []] (b7P P0 P1 P2 P3 P4 P5 P6 (.ptr (.hp 7) 0) .nilX O) k = (
 k
 (Out.ret (AVal.tuple [AVal.int .i64 0, AVal.nilIface])
  [P0, P1, P2, P3, P4, P5, P6, Obj.var [AVal.ptr (Oid.hp 7) 0, AVal.nilX], Obj.note 53 2, O, Obj.note 5 0])) := by kernel_rfl
theorem b7_ws2 (P0 P1 P2 P3 P4 P5 P6 : Obj) (l : Oc) (n v : Nat) (rows : List (List AVal)) (k : Out → Ans) : iFun Tryz.prog (Lay.nil.hd Tryz.prog) Lay.nil.fhs 0 22 [.ptr (.hp 7) 0, .str l] (b7P P0 P1 P2 P3 P4 P5 P6 .nilptr (.own 9 0 n v false) (.arr 1 rows v)) k = (
 let m0 : Nat := n + (List.map (fun (c : UInt8) => [AVal.int .u8 (↑c.toNat : Int)]) l).length;
 let m1 : Nat := v + 1;
  bif v == v && n == rows.length && decide ((2 * m0 + 1000) * 1 ≤ 281474976710656) && true then
  k
  (Out.ret (AVal.tuple [AVal.int .i64 (↑l.length : Int), AVal.nilIface])
  [P0, P1, P2, P3, P4, P5, P6, Obj.var [AVal.ptr (Oid.hp 7) 0, AVal.own 9 0 m0 m1 false], Obj.note 53 2,
  Obj.arr 1 (rows.append (List.map (fun (c : UInt8) => [AVal.int .u8 (↑c.toNat : Int)]) l)) m1,
  Obj.note 5 0])
  else none) := by kernel_rfl
theorem b7_ws3 (P0 P1 P2 P3 P4 P5 P6 : Obj) (l : Oc) (n v : Nat) (rows : List (List AVal)) (k : Out → Ans) : iFun Tryz.prog (Lay.nil.hd Tryz.prog) Lay.nil.fhs 0 22 [.ptr (.hp 7) 0, .str l] (b7P P0 P1 P2 P3 P4 P5 P6 (.ptr (.hp 7) 0) (.own 9 0 n v false) (.arr 1 rows v)) k = (
 let m0 : Nat := n + (List.map (fun (c : UInt8) => [AVal.int .u8 (↑c.toNat : Int)]) l).length;
 let m1 : Nat := v + 1;
  bif v == v && n == rows.length && decide ((2 * m0 + 1000) * 1 ≤ 281474976710656) && true then
  k
  (Out.ret (AVal.tuple [AVal.int .i64 (↑l.length : Int), AVal.nilIface])
  [P0, P1, P2, P3, P4, P5, P6, Obj.var [AVal.ptr (Oid.hp 7) 0, AVal.own 9 0 m0 m1 false], Obj.note 53 2,
  Obj.arr 1 (rows.append (List.map (fun (c : UInt8) => [AVal.int .u8 (↑c.toNat : Int)]) l)) m1,
  Obj.note 5 0])
  else none) := by kernel_rfl
theorem b7_wb2 (P0 P1 P2 P3 P4 P5 P6 : Obj) (c : UInt8) (n v : Nat) (rows : List (List AVal)) (k : Out → Ans) : iFun Tryz.prog (Lay.nil.hd Tryz.prog) Lay.nil.fhs 0 102 [.ptr (.hp 7) 0, .int .u8 c.toNat] (b7P P0 P1 P2 P3 P4 P5 P6 .nilptr (.own 9 0 n v false) (.arr 1 rows v)) k = (
 let m0 : Nat := n + 1;
 let m1 : Nat := v + 1;
  bif v == v && n == rows.length && decide ((2 * m0 + 1000) * 1 ≤ 281474976710656) && true then
  k
  (Out.ret AVal.nilIface
  [P0, P1, P2, P3, P4, P5, P6, Obj.var [AVal.ptr (Oid.hp 7) 0, AVal.own 9 0 m0 m1 false], Obj.note 53 2,
  Obj.arr 1 (rows.append [[AVal.int .u8 (↑c.toNat : Int)]]) m1, Obj.note 5 0])
  else none) := by kernel_rfl
theorem b7_wb3 (P0 P1 P2 P3 P4 P5 P6 : Obj) (c : UInt8) (n v : Nat) (rows : List (List AVal)) (k : Out → Ans) : iFun Tryz.prog (Lay.nil.hd Tryz.prog) Lay.nil.fhs 0 102 [.ptr (.hp 7) 0, .int .u8 c.toNat] (b7P P0 P1 P2 P3 P4 P5 P6 (.ptr (.hp 7) 0) (.own 9 0 n v false) (.arr 1 rows v)) k = (
 let m0 : Nat := n + 1;
 let m1 : Nat := v + 1;
  bif v == v && n == rows.length && decide ((2 * m0 + 1000) * 1 ≤ 281474976710656) && true then
  k
  (Out.ret AVal.nilIface
  [P0, P1, P2, P3, P4, P5, P6, Obj.var [AVal.ptr (Oid.hp 7) 0, AVal.own 9 0 m0 m1 false], Obj.note 53 2,
  Obj.arr 1 (rows.append [[AVal.int .u8 (↑c.toNat : Int)]]) m1, Obj.note 5 0])
  else none) := by kernel_rfl
theorem b7_len0 (P0 P1 P2 P3 P4 P5 P6 : Obj) (ad : AVal) (O : Obj) (k : Out → Ans) : iFun Tryz.prog (Lay.nil.hd Tryz.prog) Lay.nil.fhs 0 150 [.ptr (.hp 7) 0] (b7P P0 P1 P2 P3 P4 P5 P6 ad .nilX O) k = (
 k (Out.ret (AVal.int .i64 0) (b7P P0 P1 P2 P3 P4 P5 P6 ad AVal.nilX O))) := by kernel_rfl
theorem b7_len1 (P0 P1 P2 P3 P4 P5 P6 : Obj) (ad : AVal) (n v : Nat) (O : Obj) (k : Out → Ans) : iFun Tryz.prog (Lay.nil.hd Tryz.prog) Lay.nil.fhs 0 150 [.ptr (.hp 7) 0] (b7P P0 P1 P2 P3 P4 P5 P6 ad (.own 9 0 n v false) O) k = (
 k (Out.ret (AVal.int .i64 (↑n : Int)) (b7P P0 P1 P2 P3 P4 P5 P6 ad (AVal.own 9 0 n v false) O))) := by kernel_rfl
theorem b7_ws (x : b7H) (l : Oc) (hx : x.x.can 7 9) (h : x.x.t.length + l.length ≤ 1099511627776) : CallOK Tryz.prog 22 [.ptr (.hp 7) 0, .str l] x.heap (.ret (.tuple [.int .i64 l.length, .nilIface]) ({ x with x := x.x.add 7 9 l } : b7H).heap) := by
 obtain ⟨P0, P1, P2, P3, P4, P5, P6, ⟨ad, b, rows, v⟩⟩ := x
 obtain ⟨h1, h2, h3⟩ := hx
 unfold Bld.add Bld.t
 simp only [Bld.t] at h h1 h2 h3 ⊢
 generalize bytesOf rows = text at *
 subst h2 h3
 cases text with
 | nil =>
  cases l with
  | nil =>
   refine layW0_ok.call (fun k => ?_)
   rcases h1 with rfl | rfl
   · exact b7_ws0 P0 P1 P2 P3 P4 P5 P6 (.arr 1 [] v) k
   · exact b7_ws1 P0 P1 P2 P3 P4 P5 P6 (.arr 1 [] v) k
  | cons c t =>
   refine relAt_ok (i := 7) (c := 1) (j := 9) ?_
   simp only [List.length_nil] at h
   refine Lay.nil_ok.call (fun k => ?_)
   have e3 : wsV [] (c :: t) v = v + 1 + 1 := rfl
   rw [e3]
   generalize hl : c :: t = l at *
   have e4 : bfB 9 ([] ++ l) (v + 1 + 1) = .own 9 0 l.length (v + 1 + 1) false := by rw [← hl]; rfl
   rw [e4]
   rcases h1 with rfl | rfl
   · rw [show relAt 7 1 9 (b7P P0 P1 P2 P3 P4 P5 P6 .nilptr (bfB 9 [] v) (.arr 1 (([] : Oc).map byteRow) v)) = b7P P0 P1 P2 P3 P4 P5 P6 .nilptr (.own 9 0 0 (v + 1) false) (.arr 1 [] (v + 1)) from rfl, b7_ws2]
     simp (disch := omega) only [e_map, List.length_map, dT, beq_self_eq_true, Bool.and_true, cond_true, List.append_eq, List.nil_append, Nat.zero_add, List.length_nil, Nat.mul_one, List.map_nil]
   · rw [show relAt 7 1 9 (b7P P0 P1 P2 P3 P4 P5 P6 (.ptr (.hp 7) 0) (bfB 9 [] v) (.arr 1 (([] : Oc).map byteRow) v)) = b7P P0 P1 P2 P3 P4 P5 P6 (.ptr (.hp 7) 0) (.own 9 0 0 (v + 1) false) (.arr 1 [] (v + 1)) from rfl, b7_ws3]
     simp (disch := omega) only [e_map, List.length_map, dT, beq_self_eq_true, Bool.and_true, cond_true, List.append_eq, List.nil_append, Nat.zero_add, List.length_nil, Nat.mul_one, List.map_nil]
 | cons c t =>
  refine Lay.nil_ok.call (fun k => ?_)
  have e3 : wsV (c :: t) l v = v + 1 := rfl
  have e4 : bfB 9 ((c :: t) ++ l) (v + 1) = .own 9 0 ((c :: t) ++ l).length (v + 1) false := rfl
  have e5 : bfB 9 (c :: t) v = .own 9 0 (c :: t).length v false := rfl
  rw [e3, e4, e5]
  generalize c :: t = m at *
  rcases h1 with rfl | rfl
  · rw [b7_ws2]
    simp (disch := omega) only [e_map, List.length_map, dT, beq_self_eq_true, Bool.and_true, cond_true, List.append_eq, List.length_append, Nat.mul_one]
  · rw [b7_ws3]
    simp (disch := omega) only [e_map, List.length_map, dT, beq_self_eq_true, Bool.and_true, cond_true, List.append_eq, List.length_append, Nat.mul_one]
theorem b7_wb (x : b7H) (c : UInt8) (hx : x.x.can 7 9) (h : x.x.t.length ≤ 1073741824) : CallOK Tryz.prog 102 [.ptr (.hp 7) 0, .int .u8 c.toNat] x.heap (.ret .nilIface ({ x with x := x.x.add 7 9 [c] } : b7H).heap) := by
 obtain ⟨P0, P1, P2, P3, P4, P5, P6, ⟨ad, b, rows, v⟩⟩ := x
 obtain ⟨h1, h2, h3⟩ := hx
 unfold Bld.add Bld.t
 simp only [Bld.t] at h h1 h2 h3 ⊢
 generalize bytesOf rows = text at *
 subst h2 h3
 have e6 : [c].map byteRow = [[.int .u8 c.toNat]] := rfl
 rw [e6]
 cases text with
 | nil =>
  refine relAt_ok (i := 7) (c := 1) (j := 9) ?_
  refine Lay.nil_ok.call (fun k => ?_)
  have e3 : wsV [] [c] v = v + 1 + 1 := rfl
  have e4 : bfB 9 ([] ++ [c]) (v + 1 + 1) = .own 9 0 1 (v + 1 + 1) false := rfl
  rw [e3, e4]
  rcases h1 with rfl | rfl
  · rw [show relAt 7 1 9 (b7P P0 P1 P2 P3 P4 P5 P6 .nilptr (bfB 9 [] v) (.arr 1 (([] : Oc).map byteRow) v)) = b7P P0 P1 P2 P3 P4 P5 P6 .nilptr (.own 9 0 0 (v + 1) false) (.arr 1 [] (v + 1)) from rfl, b7_wb2]
    simp only [beq_self_eq_true]
    rfl
  · rw [show relAt 7 1 9 (b7P P0 P1 P2 P3 P4 P5 P6 (.ptr (.hp 7) 0) (bfB 9 [] v) (.arr 1 (([] : Oc).map byteRow) v)) = b7P P0 P1 P2 P3 P4 P5 P6 (.ptr (.hp 7) 0) (.own 9 0 0 (v + 1) false) (.arr 1 [] (v + 1)) from rfl, b7_wb3]
    simp only [beq_self_eq_true]
    rfl
 | cons d t =>
  refine Lay.nil_ok.call (fun k => ?_)
  have e3 : wsV (d :: t) [c] v = v + 1 := rfl
  have e4 : bfB 9 ((d :: t) ++ [c]) (v + 1) = .own 9 0 ((d :: t) ++ [c]).length (v + 1) false := rfl
  have e5 : bfB 9 (d :: t) v = .own 9 0 (d :: t).length v false := rfl
  rw [e3, e4, e5]
  generalize d :: t = m at *
  rcases h1 with rfl | rfl
  · rw [b7_wb2]
    simp (disch := omega) only [e_map, List.length_map, dT, beq_self_eq_true, Bool.and_true, cond_true, List.append_eq, List.length_append, Nat.mul_one, List.length_cons, List.length_nil]
  · rw [b7_wb3]
    simp (disch := omega) only [e_map, List.length_map, dT, beq_self_eq_true, Bool.and_true, cond_true, List.append_eq, List.length_append, Nat.mul_one, List.length_cons, List.length_nil]
theorem b7_len (x : b7H) (hx : x.x.can 7 9) : CallOK Tryz.prog 150 [.ptr (.hp 7) 0] x.heap (.ret (.int .i64 x.x.t.length) x.heap) := by
 obtain ⟨P0, P1, P2, P3, P4, P5, P6, ⟨ad, b, rows, v⟩⟩ := x
 obtain ⟨h1, h2, h3⟩ := hx
 simp only [Bld.t] at h1 h2 h3 ⊢
 generalize bytesOf rows = text at *
 subst h2 h3
 refine Lay.nil_ok.call (fun k => ?_)
 cases text with
 | nil => exact b7_len0 P0 P1 P2 P3 P4 P5 P6 ad _ k
 | cons c t => exact b7_len1 P0 P1 P2 P3 P4 P5 P6 ad (c :: t).length v _ k
theorem b7_str (x : b7H) (hx : x.x.can 7 9) (h : x.x.t.length ≤ 1099511627776) : CallOK Tryz.prog 23 [.ptr (.hp 7) 0] x.heap (.ret (.str x.x.t) ({ x with x := x.x.dead } : b7H).heap) := by
 obtain ⟨P0, P1, P2, P3, P4, P5, P6, ⟨ad, b, rows, v⟩⟩ := x
 obtain ⟨h1, h2, h3⟩ := hx
 unfold Bld.dead Bld.t
 simp only [Bld.t] at h h1 h2 h3 ⊢
 generalize bytesOf rows = text at *
 subst h2 h3
 cases text with
 | nil => exact str_ok0 (cs := [ad, .nilX]) rfl rfl
 | cons c t => exact str_ok (i := 7) (off := 0) (j := 9) (u := v) (cs := [ad, .own 9 0 (c :: t).length v false]) (l := c :: t) rfl rfl rfl rfl (by simp) h
noncomputable def b7_wsTold : FSp := mkF (fun xs H => (b7H.dec H, aS xs 1)) (fun x => x.1.x.can 7 9 ∧ x.1.x.t.length + x.2.length ≤ 1099511627776) (fun x => [.ptr (.hp 7) 0, .str x.2]) (fun x => x.1.heap) (fun x k => k (.ret (.tuple [.int .i64 x.2.length, .nilIface]) ({ x.1 with x := x.1.x.add 7 9 x.2 } : b7H).heap))
noncomputable def b7_wbTold : FSp := mkF (fun xs H => (b7H.dec H, UInt8.ofNat (aI xs 1).toNat)) (fun x => x.1.x.can 7 9 ∧ x.1.x.t.length ≤ 1073741824) (fun x => [.ptr (.hp 7) 0, .int .u8 x.2.toNat]) (fun x => x.1.heap) (fun x k => k (.ret .nilIface ({ x.1 with x := x.1.x.add 7 9 [x.2] } : b7H).heap))
noncomputable def b7_lenTold : FSp := mkF (fun xs H => b7H.dec H) (fun x => x.x.can 7 9) (fun x => [.ptr (.hp 7) 0]) (fun x => x.heap) (fun x k => k (.ret (.int .i64 x.x.t.length) x.heap))
noncomputable def b7_strTold : FSp := mkF (fun xs H => b7H.dec H) (fun x => x.x.can 7 9 ∧ x.x.t.length ≤ 1099511627776) (fun x => [.ptr (.hp 7) 0]) (fun x => x.heap) (fun x k => k (.ret (.str x.x.t) ({ x with x := x.x.dead } : b7H).heap))
noncomputable def b7_lay (L : Lay) : Lay := (((L.addF 22 b7_wsTold).addF 102 b7_wbTold).addF 150 b7_lenTold).addF 23 b7_strTold
theorem b7_ok {L : Lay} (h : L.OK Tryz.prog) : (b7_lay L).OK Tryz.prog :=
 (((h.addF (mkF_ok fun x h => ⟨_, fun k => rfl, b7_ws x.1 x.2 h.1 h.2⟩)).addF (mkF_ok fun x h => ⟨_, fun k => rfl, b7_wb x.1 x.2 h.1 h.2⟩)).addF (mkF_ok fun x h => ⟨_, fun k => rfl, b7_len x h⟩)).addF (mkF_ok fun x h => ⟨_, fun k => rfl, b7_str x h.1 h.2⟩)
end Go.Mu
namespace Go.Mu
open Go Go.Proofs
structure StA where
 w : WdH
 x : Bld
 at_ : Nat
 i : Nat
abbrev stP (w : WdH) (x : Bld) : Heap := b7P w.U0 w.U1 w.U2 (.var [.str w.s, .int .i64 w.base, .int .i64 w.a, w.o]) (.note wsT 4) w.O (.note wdT 0) x.ad x.b (.arr 1 x.rows x.v)
noncomputable def layS1 : Lay := b7_lay layX3
theorem layS1_ok : layS1.OK Tryz.prog := b7_ok layX3_ok
def escI (d : UInt8) : Int :=
 let n11 : Int := if (34 == d) = true then 0 else -1
 let n12 : Int := if (92 == d) = true then 0 else if (n11 == -1) = true then -1 else n11 + 1
 let n13 : Int := if (116 == d) = true then 0 else if (n12 == -1) = true then -1 else n12 + 1
 if (110 == d) = true then 0 else if (n13 == -1) = true then -1 else n13 + 1
def escO (d : UInt8) : UInt8 := [10, 9, 92, 34].getD (escI d).toNat 0
theorem escI_lt (d : UInt8) : escI d < 4 := by
 have h : ∀ n : Fin 256, escI (UInt8.ofNat n) < 4 := by decide +kernel
 have := h ⟨d.toNat, d.toNat_lt⟩
 simpa using this
theorem ofU8 (c : UInt8) : UInt8.ofNat (c.toNat : Int).toNat = c := by simp
theorem nec {c : UInt8} {n : Nat} (h : n < 256) : ((c.toNat : Int) != no_index (@OfNat.ofNat Int n _)) = !(c == (@OfNat.ofNat UInt8 n _)) := by
 rw [bne, eqc h]
structure StR where
 e : Int
 fin : Bool
 off : Nat
 text : Oc
 upto_ : Nat
 x : Bld
def strM (at_ : Nat) : Oc → Bld → Nat → StR
 | [], x, i => ⟨33, true, at_, [], 0, x⟩
 | [c], x, i => bif c == 34 then (bif decide (x.t.length ≤ 4096) then ⟨0, false, 0, x.t, i + 1, x.dead⟩ else ⟨5, false, at_, [], 0, x⟩) else bif c == 92 || c == 10 then ⟨33, false, i, [], 0, x⟩ else ⟨33, true, at_, [], 0, x.add 7 9 [c]⟩
 | c :: d :: u, x, i => bif c == 34 then (bif decide (x.t.length ≤ 4096) then ⟨0, false, 0, x.t, i + 1, x.dead⟩ else ⟨5, false, at_, [], 0, x⟩) else bif c == 92 && decide (escI d ≥ 0) then strM at_ u (x.add 7 9 [escO d]) (i + 2) else bif c == 92 || c == 10 then ⟨33, false, i, [], 0, x⟩ else strM at_ (d :: u) (x.add 7 9 [c]) (i + 1)
noncomputable def strwSp : LSp := mkL (fun vs _ H => (WdH.dec H, bld H 7 9, (aI vs 1).toNat, (aI vs 3).toNat)) (fun x => WdOk x.1 ∧ x.2.2.1 ≤ x.1.s.length ∧ x.2.2.2 ≤ x.1.s.length ∧ x.2.1.can 7 9 ∧ x.2.1.t.length ≤ x.2.2.2) (fun x => [.ptr (.hp 3) 0, .int .i64 x.2.2.1, .ptr (.hp 7) 0, .int .i64 x.2.2.2]) (fun _ => []) (fun x => stP x.1 x.2.1)
 (fun x k => cond ((strM x.2.2.1 (x.1.s.drop x.2.2.2) x.2.1 x.2.2.2).e == 0) (k .ret [.ptr (.hp 3) 0, .int .i64 x.2.2.1, .str (strM x.2.2.1 (x.1.s.drop x.2.2.2) x.2.1 x.2.2.2).text, .int .i64 (strM x.2.2.1 (x.1.s.drop x.2.2.2) x.2.1 x.2.2.2).upto_] [] (stP x.1 (strM x.2.2.1 (x.1.s.drop x.2.2.2) x.2.1 x.2.2.2).x))
  (cond (strM x.2.2.1 (x.1.s.drop x.2.2.2) x.2.1 x.2.2.2).fin (k (.exit 0) [.ptr (.hp 3) 0, .int .i64 x.2.2.1, .undef, .undef] [] (stP x.1 (strM x.2.2.1 (x.1.s.drop x.2.2.2) x.2.1 x.2.2.2).x))
   (k (.panic (flt (x.1.base + (strM x.2.2.1 (x.1.s.drop x.2.2.2) x.2.1 x.2.2.2).off) (strM x.2.2.1 (x.1.s.drop x.2.2.2) x.2.1 x.2.2.2).e)) [.ptr (.hp 3) 0, .int .i64 x.2.2.1, .undef, .undef] [] (stP x.1 (strM x.2.2.1 (x.1.s.drop x.2.2.2) x.2.1 x.2.2.2).x))))
noncomputable def strwFH : FH := { FH.of [(3, loopSpec 98 [0,1,6,7] [] [0,1,4,5] [] strwSp)] with heap := [6], typed := [(6, [(0, bT)])], exact := true }
theorem strw_step (U0 U1 U2 : Obj) (s : Oc) (base a : Int) (o : AVal) (O : Obj) (x : Bld) (at_ i : Int) (D : Dfs) (k : Kont) (n0 : Int) (e_n0 : n0 = ((↑s.length : Int)))
 (c1 : Bool) (e_c1 : c1 = (decide (i < n0)))
 (n2 : Int) (e_n2 : n2 = ((↑(s.getD i.toNat 0).toNat : Int)))
 (l3 : Oc) (e_l3 : l3 = ((Bld.mk x.ad x.b x.rows x.v).t))
 (m4 : Nat) (e_m4 : m4 = (l3.length))
 (c5 : Bool) (e_c5 : c5 = (sameV (AVal.int .i64 base) (AVal.int .i64 base) && true && true && true))
 (n6 : Int) (e_n6 : n6 = (IntKind.i64.wrap (i + 1)))
 (c7 : Bool) (e_c7 : c7 = (decide (n6 < n0)))
 (c8 : Bool) (e_c8 : c8 = (decide (0 ≤ n6) && c7))
 (c9 : Bool) (e_c9 : c9 = (bif n2 == 92 then c7 else false))
 (v10 : UInt8) (e_v10 : v10 = ((↑(s.getD n6.toNat 0).toNat : Int).toNat.toUInt8))
 (n11 : Int) (e_n11 : n11 = (if (34 == v10) = true then 0 else -1))
 (n12 : Int) (e_n12 : n12 = (if (92 == v10) = true then 0 else if (n11 == -1) = true then -1 else n11 + 1))
 (n13 : Int) (e_n13 : n13 = (if (116 == v10) = true then 0 else if (n12 == -1) = true then -1 else n12 + 1))
 (n14 : Int) (e_n14 : n14 = (if (110 == v10) = true then 0 else if (n13 == -1) = true then -1 else n13 + 1))
 (n15 : Int) (e_n15 : n15 = ((↑(([10, 9, 92, 34] : Oc).getD n14.toNat 0).toNat : Int)))
 (v16 : UInt8) (e_v16 : v16 = (UInt8.ofNat n15.toNat))
 (l17 : Oc) (e_l17 : l17 = ([v16]))
 (m18 : Nat) (e_m18 : m18 = (wsV l3 l17 x.v))
 (v19 : UInt8) (e_v19 : v19 = (UInt8.ofNat n2.toNat))
 (l20 : Oc) (e_l20 : l20 = ([v19]))
 (m21 : Nat) (e_m21 : m21 = (wsV l3 l20 x.v)) : lturn Tryz.prog layS1 strwFH 256 3 [0,1,6,7] [] [0,1,4,5] [] (stL 98 [0,1,6,7] [.ptr (.hp 3) 0, .int .i64 at_, .ptr (.hp 7) 0, .int .i64 i] [] [] (stP ⟨U0, U1, U2, s, base, a, o, O⟩ x) D) k = (
 let z1 := Obj.var [AVal.str s, AVal.int .i64 base, AVal.int .i64 a, o];
 let z3 := Bld.mk x.ad x.b x.rows x.v;
 let z0 := b7H.mk U0 U1 U2 z1 (Obj.note 288 4) O (Obj.note 244 0) z3;
 let z4 := WdH.mk U0 U1 U2 s base a o O;
 let z5 := [AVal.ptr (Oid.hp 3) 0, AVal.int .i64 at_, AVal.undef, AVal.undef];
 let z2 := stL 98 [0, 1, 4, 5] z5 [] [] (stP z4 x) D;
  bif c1 then bif decide (0 ≤ i) && c1 then bif n2 == 34 then bif tst (Bld.can 7 9 z3 ∧ SubL [AVal.ptr (Oid.hp 7) 0] [AVal.ptr (Oid.hp 7) 0] ∧ stP z4 x = z0.heap) then bif !decide ((↑m4 : Int) ≤ 4096) then bif c5 then k (AExit.panic (AVal.iface 177 (AVal.agg [AVal.int .i64 (IntKind.i64.wrap (base + at_)), AVal.int .i64 5]))) (stL 98 [0, 1, 4, 5] z5 [] [] z0.heap D) else none else bif c5 then bif tst ((Bld.can 7 9 z3 ∧ m4 ≤ 1099511627776) ∧ SubL [AVal.ptr (Oid.hp 7) 0] [AVal.ptr (Oid.hp 7) 0] ∧ z0.heap = z0.heap) then k AExit.ret (stL 98 [0, 1, 4, 5] [AVal.ptr (Oid.hp 3) 0, AVal.int .i64 at_, AVal.str l3, AVal.int .i64 n6] [] [] (b7H.mk U0 U1 U2 z1 (Obj.note 288 4) O (Obj.note 244 0) (Bld.mk x.ad x.b [] (bif l3 == [] then x.v else x.v + 1))).heap D) else none else none else none else bif c8 || !c9 then bif bif c9 then decide (n14 ≥ 0) else false then bif c8 then bif decide (0 ≤ n14) && decide (n14 < 4) then bif tst ((Bld.can 7 9 z3 ∧ m4 ≤ 1073741824) ∧ SubL [AVal.ptr (Oid.hp 7) 0, AVal.int .u8 n15] [AVal.ptr (Oid.hp 7) 0, AVal.int .u8 (↑v16.toNat : Int)] ∧ stP z4 x = z0.heap) then k AExit.normal (stL 98 [0, 1, 6, 7] [AVal.ptr (Oid.hp 3) 0, AVal.int .i64 at_, AVal.ptr (Oid.hp 7) 0, AVal.int .i64 (IntKind.i64.wrap (n6 + 1))] [] [] (b7H.mk U0 U1 U2 z1 (Obj.note 288 4) O (Obj.note 244 0) (Bld.mk (AVal.ptr (Oid.hp 7) 0) (bfB 9 (l3.append l17) m18) (x.rows.append [[AVal.int .u8 (↑v16.toNat : Int)]]) m18)).heap D) else none else none else none else bif !bif n2 != 92 then n2 != 10 else false then k (AExit.panic (AVal.iface 177 (AVal.agg [AVal.int .i64 (IntKind.i64.wrap (base + i)), AVal.int .i64 33]))) z2 else bif tst ((Bld.can 7 9 z3 ∧ m4 ≤ 1073741824) ∧ SubL [AVal.ptr (Oid.hp 7) 0, AVal.int .u8 n2] [AVal.ptr (Oid.hp 7) 0, AVal.int .u8 (↑v19.toNat : Int)] ∧ stP z4 x = z0.heap) then k AExit.normal (stL 98 [0, 1, 6, 7] [AVal.ptr (Oid.hp 3) 0, AVal.int .i64 at_, AVal.ptr (Oid.hp 7) 0, AVal.int .i64 n6] [] [] (b7H.mk U0 U1 U2 z1 (Obj.note 288 4) O (Obj.note 244 0) (Bld.mk (AVal.ptr (Oid.hp 7) 0) (bfB 9 (l3.append l20) m21) (x.rows.append [[AVal.int .u8 (↑v19.toNat : Int)]]) m21)).heap D) else none else none else none else k (AExit.exit 0) z2) := by
  subst e_n0 e_c1 e_n2 e_l3 e_m4 e_c5 e_n6 e_c7 e_c8 e_c9 e_v10 e_n11 e_n12 e_n13 e_n14 e_n15 e_v16 e_l17 e_m18 e_v19 e_l20 e_m21
  kernel_rfl
def StR.ex (r : StR) (base : Int) : AExit := cond (r.e == 0) .ret (cond r.fin (.exit 0) (.panic (flt (base + r.off) r.e)))
def StR.vs (r : StR) (at_ : Nat) : List AVal := [.ptr (.hp 3) 0, .int .i64 at_, cond (r.e == 0) (.str r.text) .undef, cond (r.e == 0) (.int .i64 r.upto_) .undef]
theorem strw_runs (w : WdH) (hw : WdOk w) (at_ : Nat) (ha : at_ ≤ w.s.length) : ∀ (m : Nat) (x : Bld) (i : Nat), w.s.length - i ≤ m → i ≤ w.s.length → x.can 7 9 → x.t.length ≤ i →
 LoopRuns (lturn Tryz.prog layS1 strwFH 256 3 [0,1,6,7] [] [0,1,4,5] []) 98 [0,1,6,7] [] [0,1,4,5] [] [.ptr (.hp 3) 0, .int .i64 at_, .ptr (.hp 7) 0, .int .i64 i] [] (stP w x)
  ((strM at_ (w.s.drop i) x i).ex w.base) ((strM at_ (w.s.drop i) x i).vs at_) [] (stP w (strM at_ (w.s.drop i) x i).x) := by
 obtain ⟨U0, U1, U2, s, base, a, o, O⟩ := w
 obtain ⟨h1, h2, h3⟩ := hw
 simp only at h1 h2 h3 ha ⊢
 intro m
 induction m using Nat.strongRecOn with
 | _ m ih =>
 intro x i hm hi hx hl
 by_cases hlt : i < s.length
 case neg =>
  have e : s.drop i = [] := List.drop_eq_nil_of_le (by omega)
  rw [e]
  refine .stop (by simp [strM, StR.ex]) (fun D k => ?_)
  exact (strw_step U0 U1 U2 s base a o O x at_ i D k _ rfl false (by rw [dF (by omega)]) _ rfl _ rfl _ rfl _ rfl _ rfl _ rfl _ rfl _ rfl _ rfl _ rfl _ rfl _ rfl _ rfl _ rfl _ rfl _ rfl _ rfl _ rfl _ rfl _ rfl).trans rfl
 have e2 : IntKind.i64.wrap ((i : Int) + 1) = ((i + 1 : Nat) : Int) := by rw [wrap_of (by omega) (by omega)]; omega
 have e3 : ((i + 1 : Nat) : Int) + 1 = ((i + 2 : Nat) : Int) := by omega
 have ed := drop_cons_of s i 0 hlt
 generalize hc : s.getD i 0 = c at ed
 have key := fun D k => strw_step U0 U1 U2 s base a o O x at_ i D k _ rfl true (by rw [dT (by omega)]) (c.toNat : Int) (by rw [Int.toNat_natCast, hc]) x.t rfl _ rfl true (by rw [sameV_refl]; rfl) ((i + 1 : Nat) : Int) (by rw [e2])
 by_cases hlt2 : i + 1 < s.length
 · have ed2 := drop_cons_of s (i + 1) 0 hlt2
   generalize hd : s.getD (i + 1) 0 = d at ed2
   have he : s.drop i = c :: d :: s.drop (i + 2) := by rw [ed, ed2]
   have key2 := fun D k => key D k true (by rw [dT (by omega)]) true (by rw [dT (by omega)]; rfl) (c == 92) (by rw [eqc (by decide)]; cases c == 92 <;> rfl) d (by simp only [Int.toNat_natCast, hd]; simp) _ rfl _ rfl _ rfl (escI d) rfl ((escO d).toNat : Int) rfl (escO d) (by rw [ofU8]) _ rfl _ rfl c (by rw [ofU8]) _ rfl _ rfl
   clear key
   rw [he, strM]
   simp (disch := first | omega | decide) only [dT, cond_true, Bool.true_and, Bool.true_or, eqc, nec, wrap_of, bif_and, Bool.and_self] at key2
   cases h34 : c == 34 with
   | true =>
    simp only [h34, cond_true] at key2 ⊢
    replace key2 := fun D k => (key2 D k).trans ((congrArg (fun c => cond c _ none) (tst_true ⟨hx, .refl _, by trivial⟩)).trans rfl)
    by_cases hn : x.t.length ≤ 4096
    · simp (disch := omega) only [dT, Bool.not_true, cond_false, cond_true] at key2 ⊢
      replace key2 := fun D k => (key2 D k).trans ((congrArg (fun c => cond c _ none) (tst_true ⟨⟨hx, show x.t.length ≤ 1099511627776 by omega⟩, .refl _, by trivial⟩)).trans rfl)
      exact .stop (by simp [StR.ex]) key2
    · simp (disch := omega) only [dF, Bool.not_false, cond_false, cond_true] at key2 ⊢
      exact .stop (by simp [StR.ex]) key2
   | false =>
    simp only [h34, cond_false] at key2 ⊢
    have tb : ∀ e : UInt8, tst ((Bld.can 7 9 (Bld.mk x.ad x.b x.rows x.v) ∧ x.t.length ≤ 1073741824) ∧ SubL [AVal.ptr (Oid.hp 7) 0, AVal.int .u8 e.toNat] [AVal.ptr (Oid.hp 7) 0, AVal.int .u8 e.toNat] ∧ True) = true := fun e => tst_true ⟨⟨hx, by omega⟩, .refl _, trivial⟩
    cases h92 : c == 92 && decide (escI d ≥ 0) with
    | true =>
     simp only [h92, cond_true] at key2 ⊢
     have h0 : escI d ≥ 0 := by rw [Bool.and_eq_true, decide_eq_true_eq] at h92; exact h92.2
     have h4 := escI_lt d
     simp (disch := omega) only [dT, Bool.and_self, cond_true] at key2
     replace key2 := fun D k => (key2 D k).trans ((congrArg (fun c => cond c _ none) (tb (escO d))).trans rfl)
     have ih2 := ih (m - 2) (by omega) (x.add 7 9 [escO d]) (i + 2) (by omega) (by omega) (Bld.add_can hx _) (by rw [Bld.add_t, List.length_append]; show _ + 1 ≤ _; omega)
     rw [e3] at key2
     exact .step key2 ih2
    | false =>
     simp only [h92, cond_false] at key2 ⊢
     have en : (!(!(c == 92) && !(c == 10))) = (c == 92 || c == 10) := by cases c == 92 <;> cases c == 10 <;> rfl
     simp only [en] at key2
     cases hb : c == 92 || c == 10 with
     | true =>
      simp only [hb, cond_true] at key2 ⊢
      exact .stop (by simp [StR.ex]) key2
     | false =>
      simp only [hb, cond_false] at key2 ⊢
      replace key2 := fun D k => (key2 D k).trans ((congrArg (fun c => cond c _ none) (tb c)).trans rfl)
      have ih2 := ih (m - 1) (by omega) (x.add 7 9 [c]) (i + 1) (by omega) (by omega) (Bld.add_can hx _) (by rw [Bld.add_t, List.length_append]; show _ + 1 ≤ _; omega)
      rw [ed2] at ih2
      exact .step key2 ih2
 · have he : s.drop i = [c] := by rw [ed, List.drop_eq_nil_of_le (by omega)]
   have key2 := fun D k => key D k false (by rw [dF (by omega)]) false (by rw [Bool.and_false]) false (by cases ((c.toNat : Int) == 92) <;> rfl) _ rfl _ rfl _ rfl _ rfl _ rfl _ rfl _ rfl _ rfl _ rfl c (by rw [ofU8]) _ rfl _ rfl
   clear key
   rw [he, strM]
   simp (disch := first | omega | decide) only [dT, cond_true, Bool.true_and, Bool.or_true, eqc, nec, bif_and, Bool.and_self, Bool.not_false, cond_false, Bool.false_and, wrap_of] at key2
   have tb : ∀ e : UInt8, tst ((Bld.can 7 9 (Bld.mk x.ad x.b x.rows x.v) ∧ x.t.length ≤ 1073741824) ∧ SubL [AVal.ptr (Oid.hp 7) 0, AVal.int .u8 e.toNat] [AVal.ptr (Oid.hp 7) 0, AVal.int .u8 e.toNat] ∧ True) = true := fun e => tst_true ⟨⟨hx, by omega⟩, .refl _, trivial⟩
   cases h34 : c == 34 with
   | true =>
    simp only [h34, cond_true] at key2 ⊢
    replace key2 := fun D k => (key2 D k).trans ((congrArg (fun c => cond c _ none) (tst_true ⟨hx, .refl _, by trivial⟩)).trans rfl)
    by_cases hn : x.t.length ≤ 4096
    · simp (disch := omega) only [dT, Bool.not_true, cond_false, cond_true] at key2 ⊢
      replace key2 := fun D k => (key2 D k).trans ((congrArg (fun c => cond c _ none) (tst_true ⟨⟨hx, show x.t.length ≤ 1099511627776 by omega⟩, .refl _, by trivial⟩)).trans rfl)
      exact .stop (by simp [StR.ex]) key2
    · simp (disch := omega) only [dF, Bool.not_false, cond_false, cond_true] at key2 ⊢
      exact .stop (by simp [StR.ex]) key2
   | false =>
    simp only [h34, cond_false] at key2 ⊢
    have en : (!(!(c == 92) && !(c == 10))) = (c == 92 || c == 10) := by cases c == 92 <;> cases c == 10 <;> rfl
    simp only [en] at key2
    cases hb : c == 92 || c == 10 with
    | true =>
     simp only [hb, cond_true] at key2 ⊢
     exact .stop (by simp [StR.ex]) key2
    | false =>
     simp only [hb, cond_false] at key2 ⊢
     replace key2 := fun D k => (key2 D k).trans ((congrArg (fun c => cond c _ none) (tb c)).trans rfl)
     have ih2 := ih (m - 1) (by omega) (x.add 7 9 [c]) (i + 1) (by omega) (by omega) (Bld.add_can hx _) (by rw [Bld.add_t, List.length_append]; show _ + 1 ≤ _; omega)
     rw [List.drop_eq_nil_of_le (show s.length ≤ i + 1 by omega), strM] at ih2
     exact .step key2 ih2
theorem strwSp_ok : SpOK (lturn Tryz.prog layS1 strwFH 256 3 [0,1,6,7] [] [0,1,4,5] []) 98 [0,1,6,7] [] [0,1,4,5] [] strwSp := mkL_ok fun a h => by
 obtain ⟨w, x, at_, i⟩ := a
 have key := strw_runs w h.1 at_ h.2.1 _ x i (Nat.le_refl _) h.2.2.1 h.2.2.2.1 h.2.2.2.2
 show ∃ e vs bs H, (∀ k : AExit → List AVal → List (List AVal) → Heap → Ans, cond ((strM at_ (w.s.drop i) x i).e == 0) _ (cond (strM at_ (w.s.drop i) x i).fin _ _) = k e vs bs H) ∧ _
 unfold StR.ex StR.vs at key
 cases hb : (strM at_ (w.s.drop i) x i).e == 0 with
 | true => rw [hb] at key; exact ⟨_, _, _, _, fun k => rfl, key⟩
 | false =>
  rw [hb] at key
  cases hf : (strM at_ (w.s.drop i) x i).fin with
  | true => rw [hf] at key; exact ⟨_, _, _, _, fun k => rfl, key⟩
  | false => rw [hf] at key; exact ⟨_, _, _, _, fun k => rfl, key⟩
noncomputable def layS2 : Lay := layS1.addL 256 strwFH
theorem strw_fun (U0 U1 U2 : Obj) (s : Oc) (base a : Int) (o : AVal) (O : Obj) (at_ : Int) (k : Out → Ans) : iFun Tryz.prog (layS2.hd Tryz.prog) layS2.fhs 0 256 [.ptr (.hp 3) 0, .int .i64 at_] (HwP U0 U1 U2 s base a o O) k = (
 let n0 : Int := IntKind.i64.wrap (at_ + 1);
 let m1 : Nat := n0.toNat;
 let n2 : Int := (↑at_.toNat : Int);
 let z2 := Bld.mk AVal.nilptr AVal.nilX [] 0;
 let z0 := strM at_.toNat (List.drop m1 s) z2 m1;
 let n3 : Int := z0.e;
 let z1 := WdH.mk U0 U1 U2 s base a o O;
  bif tst ((WdOk z1 ∧ at_.toNat ≤ s.length ∧ m1 ≤ s.length ∧ Bld.can 7 9 z2 ∧ 0 ≤ m1) ∧ SubTL [AVal.ptr (Oid.hp 3) 0, AVal.int .i64 at_, AVal.ptr (Oid.hp 7) 0, AVal.int .i64 n0] [AVal.ptr (Oid.hp 3) 0, AVal.int .i64 n2, AVal.ptr (Oid.hp 7) 0, AVal.int .i64 (↑m1 : Int)] ∧ ([] : List (List AVal)) = [] ∧ [U0, U1, U2, Obj.var [AVal.str s, AVal.int .i64 base, AVal.int .i64 a, o], Obj.note 288 4, O, Obj.note 244 0, Obj.var [AVal.nilptr, AVal.nilX], Obj.note 53 2, Obj.arr 1 [] 0, Obj.note 5 0] = stP z1 z2) then bif n3 == 0 then k (Out.ret (AVal.tuple [AVal.str z0.text, AVal.int .i64 (↑z0.upto_ : Int)]) (stP z1 z0.x)) else bif z0.fin then k (Out.panic (AVal.iface 177 (AVal.agg [AVal.int .i64 (IntKind.i64.wrap (base + n2)), AVal.int .i64 33])) (stP z1 z0.x)) else k (Out.panic (flt (base + (↑z0.off : Int)) n3) (stP z1 z0.x)) else none) := by kernel_rfl
theorem layS2_ok : layS2.OK Tryz.prog := layS1_ok.loop1 (id := 3) (by kernel_rfl) (by kernel_rfl) (by kernel_rfl) strwSp_ok
structure StQ where
 e : Int
 off : Nat
 text : Oc
 upto_ : Nat
def strQ (at_ : Nat) : Oc → Oc → Nat → StQ
 | [], acc, i => ⟨33, at_, [], 0⟩
 | [c], acc, i => bif c == 34 then (bif decide (acc.length ≤ 4096) then ⟨0, 0, acc, i + 1⟩ else ⟨5, at_, [], 0⟩) else bif c == 92 || c == 10 then ⟨33, i, [], 0⟩ else ⟨33, at_, [], 0⟩
 | c :: d :: u, acc, i => bif c == 34 then (bif decide (acc.length ≤ 4096) then ⟨0, 0, acc, i + 1⟩ else ⟨5, at_, [], 0⟩) else bif c == 92 && decide (escI d ≥ 0) then strQ at_ u (acc ++ [escO d]) (i + 2) else bif c == 92 || c == 10 then ⟨33, i, [], 0⟩ else strQ at_ (d :: u) (acc ++ [c]) (i + 1)
theorem strM_Q (at_ : Nat) : ∀ (n : Nat) (t : Oc) (x : Bld) (i : Nat), t.length ≤ n → strQ at_ t x.t i = ⟨(strM at_ t x i).e, (strM at_ t x i).off, (strM at_ t x i).text, (strM at_ t x i).upto_⟩ ∧ ((strM at_ t x i).fin = true → (strM at_ t x i).e = 33 ∧ (strM at_ t x i).off = at_)
 | n, [], x, i, _ => ⟨rfl, fun _ => ⟨rfl, rfl⟩⟩
 | n, [c], x, i, _ => by
  rw [strQ, strM]
  cases c == 34 with
  | true =>
   cases decide (x.t.length ≤ 4096)
   · exact ⟨rfl, fun h => by cases h⟩
   · exact ⟨rfl, fun h => by cases h⟩
  | false =>
   cases c == 92 || c == 10
   · exact ⟨rfl, fun _ => ⟨rfl, rfl⟩⟩
   · exact ⟨rfl, fun h => by cases h⟩
 | 0, c :: d :: u, x, i, h => by simp at h
 | n + 1, c :: d :: u, x, i, h => by
  rw [strQ, strM]
  simp only [List.length_cons] at h
  cases c == 34 with
  | true =>
   cases decide (x.t.length ≤ 4096)
   · exact ⟨rfl, fun h => by cases h⟩
   · exact ⟨rfl, fun h => by cases h⟩
  | false =>
   cases c == 92 && decide (escI d ≥ 0) with
   | true =>
    have := strM_Q at_ n u (x.add 7 9 [escO d]) (i + 2) (by omega)
    rw [Bld.add_t] at this
    exact this
   | false =>
    cases c == 92 || c == 10 with
    | true => exact ⟨rfl, fun h => by cases h⟩
    | false =>
     have := strM_Q at_ n (d :: u) (x.add 7 9 [c]) (i + 1) (by simp only [List.length_cons]; omega)
     rw [Bld.add_t] at this
     exact this
theorem CallOK.shrinkP {P : Program} {f : FuncId} {xs : List AVal} {H H' G : Heap} {v : AVal} (hc : CallOK P f xs H (.panic v (H' ++ G))) (hl : H.length ≤ H'.length) (hv : refsD 6 H'.length v = true) (hH : ∀ x ∈ H', refsO H'.length x = true) : CallOK P f xs H (.panic v H') := by
 intro w E cs sim hlen hr
 refine Calls.mono (hc w E cs sim hlen hr) (fun e w' hp => ?_)
 cases e with
 | returned c => exact hp.elim
 | panicked c =>
  obtain ⟨E', c0, e0, ev, sim', hrep⟩ := hp
  exact ⟨E', c0, e0, ev.shrink hl, sim'.shrink hH, hrep.shrink 6 _ _ hv⟩
 | outgrown => exact hp.elim
def WdR (x : WdH) : Prop := ∀ o ∈ x.heap, refsO 7 o = true
noncomputable def strwTold : FSp := mkF (fun xs H => (WdH.dec H, (aI xs 1).toNat)) (fun x => WdOk x.1 ∧ WdR x.1 ∧ x.2 < x.1.s.length) (fun x => [.ptr (.hp 3) 0, .int .i64 x.2]) (fun x => x.1.heap)
 (fun x k => cond ((strQ x.2 (x.1.s.drop (x.2 + 1)) [] (x.2 + 1)).e == 0) (k (.ret (.tuple [.str (strQ x.2 (x.1.s.drop (x.2 + 1)) [] (x.2 + 1)).text, .int .i64 (strQ x.2 (x.1.s.drop (x.2 + 1)) [] (x.2 + 1)).upto_]) x.1.heap))
  (k (.panic (flt (x.1.base + (strQ x.2 (x.1.s.drop (x.2 + 1)) [] (x.2 + 1)).off) (strQ x.2 (x.1.s.drop (x.2 + 1)) [] (x.2 + 1)).e) x.1.heap)))
theorem strwTold_ok : ∀ xs H k out, strwTold xs H k = some out → ∃ o, CallOK Tryz.prog 256 xs H o ∧ k o = some out := mkF_ok fun x h => by
 obtain ⟨⟨U0, U1, U2, s, base, a, o, O⟩, at_⟩ := x
 obtain ⟨hw, hR, ha⟩ := h
 have hw' := hw
 obtain ⟨h1, h2, h3⟩ := hw'
 simp only at h1 h2 h3 ha
 have e2 : IntKind.i64.wrap ((at_ : Int) + 1) = ((at_ + 1 : Nat) : Int) := by rw [wrap_of (by omega) (by omega)]; omega
 have key := fun k => strw_fun U0 U1 U2 s base a o O at_ k
 simp only [Int.toNat_natCast, e2] at key
 replace key := fun k => (key k).trans ((congrArg (fun c => cond c _ none) (tst_true ⟨⟨hw, show at_ ≤ s.length by omega, show at_ + 1 ≤ s.length by omega, Bld.new_can 7 9, Nat.zero_le _⟩, .refl _, by trivial, by trivial⟩)).trans rfl)
 obtain ⟨q1, q2⟩ := strM_Q at_ _ (s.drop (at_ + 1)) Bld.new (at_ + 1) (Nat.le_refl _)
 have q1' : strQ at_ (s.drop (at_ + 1)) [] (at_ + 1) = _ := q1
 show ∃ o, (∀ k : Out → Ans, cond ((strQ at_ (s.drop (at_ + 1)) [] (at_ + 1)).e == 0) _ _ = k o) ∧ _
 dsimp only
 rw [q1']
 simp only
 replace key : ∀ k, iFun Tryz.prog (layS2.hd Tryz.prog) layS2.fhs 0 256 [.ptr (.hp 3) 0, .int .i64 at_] (HwP U0 U1 U2 s base a o O) k = cond ((strM at_ (s.drop (at_ + 1)) Bld.new (at_ + 1)).e == 0) _ (cond (strM at_ (s.drop (at_ + 1)) Bld.new (at_ + 1)).fin _ _) := key
 cases hb : (strM at_ (s.drop (at_ + 1)) Bld.new (at_ + 1)).e == 0 with
 | true =>
  simp only [hb, cond_true] at key
  refine ⟨_, fun k => rfl, ?_⟩
  exact CallOK.shrink (H' := HwP U0 U1 U2 s base a o O) (G := [_, _, _, _]) (layS2_ok.call key) (Nat.le_refl _) (by rfl) hR
 | false =>
  simp only [hb, cond_false] at key
  refine ⟨_, fun k => rfl, ?_⟩
  cases hf : (strM at_ (s.drop (at_ + 1)) Bld.new (at_ + 1)).fin with
  | true =>
   simp only [hf, cond_true] at key
   obtain ⟨g1, g2⟩ := q2 hf
   rw [g1, g2]
   simp (disch := omega) only [wrap_of] at key
   exact CallOK.shrinkP (H' := HwP U0 U1 U2 s base a o O) (G := [_, _, _, _]) (layS2_ok.call key) (Nat.le_refl _) (by rfl) hR
  | false =>
   simp only [hf, cond_false] at key
   exact CallOK.shrinkP (H' := HwP U0 U1 U2 s base a o O) (G := [_, _, _, _]) (layS2_ok.call key) (Nat.le_refl _) (by rfl) hR
end Go.Mu
namespace Go.Mu
open Go Go.Proofs
def dgN (t : Oc) : Nat := (t.takeWhile dig).length
theorem dgN_cons (c : UInt8) (t : Oc) : dgN (c :: t) = bif dig c then dgN t + 1 else 0 := by
 unfold dgN
 rw [List.takeWhile_cons]
 cases dig c <;> simp
theorem dgN_le (t : Oc) : dgN t ≤ t.length := by
 unfold dgN
 exact (List.takeWhile_prefix dig).length_le
noncomputable def digSp : LSp := mkL (fun vs _ H => (WdH.dec H, (aI vs 1).toNat, (aI vs 2).toNat)) (fun x => WdOk x.1 ∧ x.2.1 ≤ x.1.s.length ∧ x.2.2 ≤ x.1.s.length) (fun x => [.ptr (.hp 3) 0, .int .i64 x.2.1, .int .i64 x.2.2]) (fun _ => []) (fun x => x.1.heap) (fun x k => k (.exit 0) [.ptr (.hp 3) 0, .int .i64 x.2.1, .int .i64 ((x.2.2 + dgN (x.1.s.drop x.2.2) : Nat) : Int)] [] x.1.heap)
noncomputable def digFH : FH := .of [(2, loopSpec 67 [0,1,5] [] [0,1,5] [] digSp)]
noncomputable def layG1 : Lay := layX3.addF 194 numTold
theorem layG1_ok : layG1.OK Tryz.prog := layX3_ok.addF numTold_ok
theorem dig_step (U0 U1 U2 : Obj) (s : Oc) (base a : Int) (o : AVal) (O : Obj) (at_ i : Int) (D : Dfs) (k : Kont) : lturn Tryz.prog layG1 digFH 255 2 [0,1,5] [] [0,1,5] [] (stL 67 [0,1,5] [.ptr (.hp 3) 0, .int .i64 at_, .int .i64 i] [] [] (HwP U0 U1 U2 s base a o O) D) k = (
 let c0 : Bool := decide (i < (↑s.length : Int));
 let c1 : Bool := decide (0 ≤ i) && c0;
 let n2 : Int := (↑(s.getD i.toNat 0).toNat : Int);
 let c3 : Bool := bif c0 then decide (n2 ≥ 48) else false;
  bif c1 || !c0 then bif c1 || !c3 then bif bif c3 then decide (n2 ≤ 57) else false then k AExit.normal (stL 67 [0, 1, 5] [AVal.ptr (Oid.hp 3) 0, AVal.int .i64 at_, AVal.int .i64 (IntKind.i64.wrap (i + 1))] [] [] (HwP U0 U1 U2 s base a o O) D) else k (AExit.exit 0) (stL 67 [0, 1, 5] [AVal.ptr (Oid.hp 3) 0, AVal.int .i64 at_, AVal.int .i64 i] [] [] (HwP U0 U1 U2 s base a o O) D) else none else none) := by kernel_rfl
theorem dig_runs (x : WdH) (hx : WdOk x) (at_ : Nat) : ∀ (m i : Nat), x.s.length - i ≤ m → i ≤ x.s.length → LoopRuns (lturn Tryz.prog layG1 digFH 255 2 [0,1,5] [] [0,1,5] []) 67 [0,1,5] [] [0,1,5] [] [.ptr (.hp 3) 0, .int .i64 at_, .int .i64 i] [] x.heap (.exit 0) [.ptr (.hp 3) 0, .int .i64 at_, .int .i64 ((i + dgN (x.s.drop i) : Nat) : Int)] [] x.heap := by
 obtain ⟨U0, U1, U2, s, base, a, o, O⟩ := x
 obtain ⟨h1, h2, h3⟩ := hx
 simp only at h1 h2 h3 ⊢
 intro m
 induction m with
 | zero =>
  intro i hm hi
  have e : s.drop i = [] := List.drop_eq_nil_of_le (by omega)
  rw [e]
  refine .stop (by simp) (fun D k => ?_)
  rw [dig_step]
  simp (disch := omega) only [dF, cond_false, Bool.and_false, Bool.false_and, Bool.not_false, Bool.or_true, cond_true]
  rfl
 | succ m ih =>
  intro i hm hi
  by_cases hlt : i < s.length
  · have key := fun D k => dig_step U0 U1 U2 s base a o O at_ i D k
    have e2 : (i : Int) + 1 = ((i + 1 : Nat) : Int) := by omega
    have ec : ∀ c : UInt8, (decide (48 ≤ c.toNat) && decide (c.toNat ≤ 57)) = dig c := fun _ => rfl
    simp (disch := first | omega | decide) only [Int.toNat_natCast, dT, cond_true, Bool.true_and, Bool.true_or, Bool.and_true, Bool.and_self, gec, lec, bif_or, bif_and, ec, wrap_of, e2] at key
    have ih2 := ih (i + 1) (by omega) (by omega)
    rw [drop_cons_of s i 0 hlt, dgN_cons]
    cases hc : dig (s.getD i 0) with
    | true =>
     simp only [hc, cond_true] at key
     rw [show i + 1 + dgN (s.drop (i + 1)) = i + (dgN (s.drop (i + 1)) + 1) by omega] at ih2
     exact .step key ih2
    | false =>
     simp only [hc, cond_false] at key
     exact .stop (by simp) key
  · have e : s.drop i = [] := List.drop_eq_nil_of_le (by omega)
    rw [e]
    refine .stop (by simp) (fun D k => ?_)
    rw [dig_step]
    simp (disch := omega) only [dF, cond_false, Bool.and_false, Bool.false_and, Bool.not_false, Bool.or_true, cond_true]
    rfl
theorem digSp_ok : SpOK (lturn Tryz.prog layG1 digFH 255 2 [0,1,5] [] [0,1,5] []) 67 [0,1,5] [] [0,1,5] [] digSp := mkL_ok fun a h => ⟨_, _, _, _, fun k => rfl, dig_runs a.1 h.1 a.2.1 _ a.2.2 (Nat.le_refl _) h.2.2⟩
noncomputable def layG2 : Lay := layG1.addL 255 digFH
theorem layG2_ok : layG2.OK Tryz.prog := layG1_ok.loop1 (id := 2) (by kernel_rfl) (by kernel_rfl) (by kernel_rfl) digSp_ok
theorem digits_fun (U0 U1 U2 : Obj) (s : Oc) (base a : Int) (o : AVal) (O : Obj) (at_ : Int) (k : Out → Ans) (n0 : Int) (e_n0 : n0 = (IntKind.i64.wrap (at_ + 1)))
 (m1 : Nat) (e_m1 : m1 = (n0.toNat))
 (n2 : Int) (e_n2 : n2 = ((↑at_.toNat : Int)))
 (n3 : Int) (e_n3 : n3 = ((↑(m1 + dgN (List.drop m1 s)) : Int)))
 (l4 : Oc) (e_l4 : l4 = (List.drop n2.toNat (List.take n3.toNat s)))
 (n5 : Int) (e_n5 : n5 = ((numM l4).snd)) : iFun Tryz.prog (layG2.hd Tryz.prog) layG2.fhs 0 255 [.ptr (.hp 3) 0, .int .i64 at_] (HwP U0 U1 U2 s base a o O) k = (
 let z0 := WdH.mk U0 U1 U2 s base a o O;
  bif tst ((WdOk z0 ∧ at_.toNat ≤ s.length ∧ m1 ≤ s.length) ∧ SubTL [AVal.ptr (Oid.hp 3) 0, AVal.int .i64 at_, AVal.int .i64 n0] [AVal.ptr (Oid.hp 3) 0, AVal.int .i64 n2, AVal.int .i64 (↑m1 : Int)] ∧ ([] : List (List AVal)) = [] ∧ HwP U0 U1 U2 s base a o O = z0.heap) then bif decide (n2 ≤ n3) && decide (n3 ≤ (↑s.length : Int)) then bif decide (l4.length ≤ 1099511627776) then bif !n5 != 4 then k (Out.panic (AVal.iface 177 (AVal.agg [AVal.int .i64 (IntKind.i64.wrap (base + n2)), AVal.int .i64 4])) z0.heap) else bif !n5 == 0 then k (Out.panic (AVal.iface 177 (AVal.agg [AVal.int .i64 (IntKind.i64.wrap (base + n2)), AVal.int .i64 33])) z0.heap) else k (Out.ret (AVal.int .i64 n3) z0.heap) else none else none else none) := by
  subst e_n0 e_m1 e_n2 e_n3 e_l4 e_n5
  kernel_rfl
def digM (t : Oc) : Int × Nat :=
 (bif (numM (t.take (1 + dgN (t.drop 1)))).2 == 4 then 4 else bif (numM (t.take (1 + dgN (t.drop 1)))).2 == 0 then 0 else 33, 1 + dgN (t.drop 1))
theorem digits_call (x : WdH) (at_ : Nat) (hx : WdOk x) (ha : at_ < x.s.length) (k : Out → Ans) : iFun Tryz.prog (layG2.hd Tryz.prog) layG2.fhs 0 255 [.ptr (.hp 3) 0, .int .i64 at_] x.heap k =
 cond ((digM (x.s.drop at_)).1 == 0) (k (.ret (.int .i64 ((at_ + (digM (x.s.drop at_)).2 : Nat) : Int)) x.heap)) (k (.panic (flt (x.base + at_) (digM (x.s.drop at_)).1) x.heap)) := by
 have hx' := hx
 obtain ⟨U0, U1, U2, s, base, a, o, O⟩ := x
 obtain ⟨h1, h2, h3⟩ := hx'
 simp only at h1 h2 h3 ha ⊢
 have hr := dgN_le (s.drop (at_ + 1))
 rw [List.length_drop] at hr
 have ed : (s.drop at_).drop 1 = s.drop (at_ + 1) := by rw [List.drop_drop]
 unfold digM
 rw [ed]
 have et : (s.drop at_).take (1 + dgN (s.drop (at_ + 1))) = (s.take (at_ + 1 + dgN (s.drop (at_ + 1)))).drop at_ := by
  rw [List.drop_take]
  congr 1
  omega
 rw [et]
 have e2 : IntKind.i64.wrap ((at_ : Int) + 1) = ((at_ + 1 : Nat) : Int) := by rw [wrap_of (by omega) (by omega)]; omega
 rw [digits_fun U0 U1 U2 s base a o O at_ k ((at_ + 1 : Nat) : Int) e2.symm (at_ + 1) (by omega) (at_ : Int) (by omega) _ rfl ((s.take (at_ + 1 + dgN (s.drop (at_ + 1)))).drop at_) (by rw [Int.toNat_natCast, Int.toNat_natCast]) _ rfl]
 simp only [Int.toNat_natCast]
 refine (congrArg (fun c => cond c _ none) (tst_true ⟨⟨hx, show at_ ≤ s.length by omega, show at_ + 1 ≤ s.length by omega⟩, .refl _, by trivial, by trivial⟩)).trans ?_
 have hl : ((s.take (at_ + 1 + dgN (s.drop (at_ + 1)))).drop at_).length ≤ s.length := by simp; omega
 generalize (s.take (at_ + 1 + dgN (s.drop (at_ + 1)))).drop at_ = u at *
 simp (disch := omega) only [cond_true, dT, Bool.and_self, wrap_of]
 generalize (numM u).2 = n
 rw [show at_ + 1 + dgN (s.drop (at_ + 1)) = at_ + (1 + dgN (s.drop (at_ + 1))) by omega]
 cases h4 : n == 4 with
 | true => simp only [bne, h4, cond_true]; rfl
 | false =>
  cases h0 : n == 0 with
  | true => simp only [bne, h4, cond_false, cond_true, Bool.not_true, Bool.not_false]; rfl
  | false => simp only [bne, h4, cond_false, cond_true, Bool.not_true, Bool.not_false]; rfl
structure OneR where
 e : Int
 off : Nat
 kind : Int
 text : Oc
 len : Nat
def cutR (k : Int) (t : Oc) (r : Int × Nat) : OneR := ⟨r.1, 0, k, t.take r.2, r.2⟩
def oneM (t : Oc) : OneR :=
 bif ltr (t.getD 0 0) || t.getD 0 0 == 95 then cutR 1 t (idE t, runN t)
 else bif t.getD 0 0 == 46 then cutR 2 t (dotM t)
 else bif t.getD 0 0 == 36 then cutR 3 t (dollarM t)
 else bif t.getD 0 0 == 45 || dig (t.getD 0 0) then cutR 4 t (digM t)
 else bif t.getD 0 0 == 34 then ⟨(strQ 0 (t.drop 1) [] 1).e, (strQ 0 (t.drop 1) [] 1).off, 5, (strQ 0 (t.drop 1) [] 1).text, (strQ 0 (t.drop 1) [] 1).upto_⟩
 else bif [58, 61].isPrefixOf t then cutR 6 t (0, 2)
 else cutR 6 t (bif t.getD 0 0 == 124 then 0 else 33, 1)
noncomputable def layG3 : Lay := (((((layD4.addF 253 (cutTold' dotM)).addF 254 (cutTold' dollarM)).addF 255 (cutTold' digM)).addF 256 strwTold))
theorem layG3_ok : layG3.OK Tryz.prog := ((((layD4_ok.addF (cutTold'_ok layD6_ok dot_call)).addF (cutTold'_ok layD6_ok dollar_call)).addF (cutTold'_ok layG2_ok digits_call)).addF strwTold_ok)
theorem one_fun (U0 U1 U2 : Obj) (s : Oc) (base a : Int) (o : AVal) (O : Obj) (k : Out → Ans) (c0 : Bool) (e_c0 : c0 = (decide (0 ≤ a)))
 (n1 : Int) (e_n1 : n1 = ((↑s.length : Int)))
 (n2 : Int) (e_n2 : n2 = ((↑(s.getD a.toNat 0).toNat : Int)))
 (n3 : Int) (e_n3 : n3 = ((↑a.toNat : Int)))
 (l4 : Oc) (e_l4 : l4 = (List.drop a.toNat s))
 (n5 : Int) (e_n5 : n5 = (idE l4))
 (n6 : Int) (e_n6 : n6 = ((↑(a.toNat + runN l4) : Int)))
 (n7 : Int) (e_n7 : n7 = (base + n3))
 (c8 : Bool) (e_c8 : c8 = (tst
  ((WdOk (WdH.mk U0 U1 U2 s base a o O) ∧ a.toNat < s.length) ∧
    SubL [AVal.ptr (Oid.hp 3) 0, AVal.int .i64 a] [AVal.ptr (Oid.hp 3) 0, AVal.int .i64 n3] ∧
     HwP U0 U1 U2 s base a o O = (WdH.mk U0 U1 U2 s base a o O).heap)))
 (n9 : Int) (e_n9 : n9 = ((dotM l4).fst))
 (n10 : Int) (e_n10 : n10 = ((↑(a.toNat + (dotM l4).snd) : Int)))
 (n11 : Int) (e_n11 : n11 = ((dollarM l4).fst))
 (n12 : Int) (e_n12 : n12 = ((↑(a.toNat + (dollarM l4).snd) : Int)))
 (m13 : Nat) (e_m13 : m13 = (1 + dgN (List.drop 1 l4)))
 (n14 : Int) (e_n14 : n14 = ((numM (List.take m13 l4)).snd))
 (n15 : Int) (e_n15 : n15 = (bif n14 == 4 then 4 else bif n14 == 0 then 0 else 33))
 (n16 : Int) (e_n16 : n16 = ((↑(a.toNat + m13) : Int)))
 (m17 : Nat) (e_m17 : m17 = (a.toNat + 1))
 (n18 : Int) (e_n18 : n18 = ((strQ a.toNat (List.drop m17 s) [] m17).e))
 (n19 : Int) (e_n19 : n19 = (IntKind.i64.wrap (a + 2)))
 (n20 : Int) (e_n20 : n20 = (IntKind.i64.wrap (a + 1))) : iFun Tryz.prog (layG3.hd Tryz.prog) layG3.fhs 0 214 [.ptr (.hp 3) 0] (HwP U0 U1 U2 s base a o O) k = (
 let z0 := WdH.mk U0 U1 U2 s base a o O;
 let z1 := IntKind.i64.wrap (base + a);
 let z2 := strQ a.toNat (List.drop m17 s) [] m17;
  bif c0 && decide (a < n1) then bif bif ltrI n2 then true else n2 == 95 then bif tst ((WdOk z0 ∧ a.toNat ≤ s.length ∧ a.toNat ≤ s.length) ∧ SubL [AVal.ptr (Oid.hp 3) 0, AVal.int .i64 a, AVal.int .i64 a] [AVal.ptr (Oid.hp 3) 0, AVal.int .i64 n3, AVal.int .i64 n3] ∧ HwP U0 U1 U2 s base a o O = z0.heap) then bif n5 == 0 then bif c0 && decide (a ≤ n6) && decide (n6 ≤ n1) then k (Out.ret (AVal.agg [AVal.int .i64 1, AVal.str (List.drop a.toNat (List.take n6.toNat s)), AVal.int .i64 z1]) [U0, U1, U2, Obj.var [AVal.str s, AVal.int .i64 base, AVal.int .i64 n6, o], Obj.note 288 4, O, Obj.note 244 0]) else none else k (Out.panic (flt n7 n5) z0.heap) else none else bif n2 == 46 then bif c8 then bif n9 == 0 then bif c0 && decide (a ≤ n10) && decide (n10 ≤ n1) then k (Out.ret (AVal.agg [AVal.int .i64 2, AVal.str (List.drop a.toNat (List.take n10.toNat s)), AVal.int .i64 z1]) [U0, U1, U2, Obj.var [AVal.str s, AVal.int .i64 base, AVal.int .i64 n10, o], Obj.note 288 4, O, Obj.note 244 0]) else none else k (Out.panic (flt n7 n9) z0.heap) else none else bif n2 == 36 then bif c8 then bif n11 == 0 then bif c0 && decide (a ≤ n12) && decide (n12 ≤ n1) then k (Out.ret (AVal.agg [AVal.int .i64 3, AVal.str (List.drop a.toNat (List.take n12.toNat s)), AVal.int .i64 z1]) [U0, U1, U2, Obj.var [AVal.str s, AVal.int .i64 base, AVal.int .i64 n12, o], Obj.note 288 4, O, Obj.note 244 0]) else none else k (Out.panic (flt n7 n11) z0.heap) else none else bif bif n2 == 45 then true else bif decide (n2 ≥ 48) then decide (n2 ≤ 57) else false then bif c8 then bif n15 == 0 then bif c0 && decide (a ≤ n16) && decide (n16 ≤ n1) then k (Out.ret (AVal.agg [AVal.int .i64 4, AVal.str (List.drop a.toNat (List.take n16.toNat s)), AVal.int .i64 z1]) [U0, U1, U2, Obj.var [AVal.str s, AVal.int .i64 base, AVal.int .i64 n16, o], Obj.note 288 4, O, Obj.note 244 0]) else none else k (Out.panic (flt n7 n15) z0.heap) else none else bif n2 == 34 then bif tst ((WdOk z0 ∧ WdR z0 ∧ a.toNat < s.length) ∧ SubL [AVal.ptr (Oid.hp 3) 0, AVal.int .i64 a] [AVal.ptr (Oid.hp 3) 0, AVal.int .i64 n3] ∧ HwP U0 U1 U2 s base a o O = z0.heap) then bif n18 == 0 then k (Out.ret (AVal.agg [AVal.int .i64 5, AVal.str z2.text, AVal.int .i64 z1]) [U0, U1, U2, Obj.var [AVal.str s, AVal.int .i64 base, AVal.int .i64 (↑z2.upto_ : Int), o], Obj.note 288 4, O, Obj.note 244 0]) else k (Out.panic (flt (base + (↑z2.off : Int)) n18) z0.heap) else none else bif c0 && decide (a ≤ n1) && decide (n1 ≤ n1) then bif [58, 61].isPrefixOf (List.drop a.toNat (List.take n1.toNat s)) then bif c0 && decide (a ≤ n19) && decide (n19 ≤ n1) then k (Out.ret (AVal.agg [AVal.int .i64 6, AVal.str (List.drop a.toNat (List.take n19.toNat s)), AVal.int .i64 z1]) [U0, U1, U2, Obj.var [AVal.str s, AVal.int .i64 base, AVal.int .i64 n19, o], Obj.note 288 4, O, Obj.note 244 0]) else none else bif !n2 == 124 then k (Out.panic (AVal.iface 177 (AVal.agg [AVal.int .i64 z1, AVal.int .i64 33])) (HwP U0 U1 U2 s base a o O)) else bif c0 && decide (a ≤ n20) && decide (n20 ≤ n1) then k (Out.ret (AVal.agg [AVal.int .i64 6, AVal.str (List.drop a.toNat (List.take n20.toNat s)), AVal.int .i64 z1]) [U0, U1, U2, Obj.var [AVal.str s, AVal.int .i64 base, AVal.int .i64 n20, o], Obj.note 288 4, O, Obj.note 244 0]) else none else none else none) := by
  subst e_c0 e_n1 e_n2 e_n3 e_l4 e_n5 e_n6 e_n7 e_c8 e_n9 e_n10 e_n11 e_n12 e_m13 e_n14 e_n15 e_n16 e_m17 e_n18 e_n19 e_n20
  kernel_rfl
theorem strQ_shift (b : Nat) : ∀ (n : Nat) (t acc : Oc) (i : Nat), t.length ≤ n → (strQ b t acc (b + i)).e = (strQ 0 t acc i).e ∧ (strQ b t acc (b + i)).text = (strQ 0 t acc i).text ∧ ((strQ 0 t acc i).e ≠ 0 → (strQ b t acc (b + i)).off = b + (strQ 0 t acc i).off) ∧ ((strQ 0 t acc i).e = 0 → (strQ b t acc (b + i)).upto_ = b + (strQ 0 t acc i).upto_ ∧ (strQ 0 t acc i).upto_ ≤ i + t.length)
 | n, [], acc, i, _ => ⟨rfl, rfl, fun _ => rfl, fun h => by cases h⟩
 | n, [c], acc, i, _ => by
  rw [strQ, strQ]
  cases c == 34 with
  | true =>
   cases decide (acc.length ≤ 4096) with
   | false => exact ⟨rfl, rfl, fun _ => rfl, fun h => by cases h⟩
   | true => exact ⟨rfl, rfl, fun h => absurd rfl h, fun _ => ⟨rfl, Nat.le_refl _⟩⟩
  | false =>
   cases c == 92 || c == 10
   · exact ⟨rfl, rfl, fun _ => rfl, fun h => by cases h⟩
   · exact ⟨rfl, rfl, fun _ => rfl, fun h => by cases h⟩
 | 0, c :: d :: u, acc, i, h => by simp at h
 | n + 1, c :: d :: u, acc, i, h => by
  rw [strQ, strQ]
  simp only [List.length_cons] at h ⊢
  cases c == 34 with
  | true =>
   cases decide (acc.length ≤ 4096) with
   | false => exact ⟨rfl, rfl, fun _ => rfl, fun h => by cases h⟩
   | true => exact ⟨rfl, rfl, fun h => absurd rfl h, fun _ => ⟨rfl, by simp only [cond_true]; omega⟩⟩
  | false =>
   cases c == 92 && decide (escI d ≥ 0) with
   | true =>
    have := strQ_shift b n u (acc ++ [escO d]) (i + 2) (by omega)
    simp only [cond_true, cond_false]
    rw [← Nat.add_assoc] at this
    exact ⟨this.1, this.2.1, this.2.2.1, fun h => ⟨(this.2.2.2 h).1, by have := (this.2.2.2 h).2; omega⟩⟩
   | false =>
    cases c == 92 || c == 10 with
    | true => exact ⟨rfl, rfl, fun _ => rfl, fun h => by cases h⟩
    | false =>
     have := strQ_shift b n (d :: u) (acc ++ [c]) (i + 1) (by simp only [List.length_cons]; omega)
     simp only [cond_true, cond_false]
     rw [← Nat.add_assoc] at this
     simp only [List.length_cons] at this
     exact ⟨this.1, this.2.1, this.2.2.1, fun h => ⟨(this.2.2.2 h).1, by have := (this.2.2.2 h).2; omega⟩⟩
theorem dotM_le {t : Oc} (h : 0 < t.length) : (dotM t).2 ≤ t.length := by
 unfold dotM
 cases hd1 t
 · exact h
 · exact dotsM_le _ _
theorem dollarM_le {t : Oc} (h : 0 < t.length) : (dollarM t).2 ≤ t.length := by
 unfold dollarM
 have hr := runN_le (t.drop 1)
 rw [List.length_drop] at hr
 cases hd1 t with
 | false =>
  have := dotsM_le t.length (t.drop 1)
  rw [List.length_drop] at this
  simp only [cond_false]; omega
 | true =>
  cases idE (t.drop 1) == 0 with
  | false => exact Nat.zero_le _
  | true =>
   have := dotsM_le t.length (t.drop (1 + runN (t.drop 1)))
   rw [List.length_drop] at this
   simp only [cond_true]; omega
theorem digM_le {t : Oc} (h : 0 < t.length) : (digM t).2 ≤ t.length := by
 unfold digM
 have hr := dgN_le (t.drop 1)
 rw [List.length_drop] at hr
 simp only; omega
theorem pre_two {s : Oc} (h : [58, 61].isPrefixOf s = true) : 2 ≤ s.length := pre_len h
theorem cut_eq (s : Oc) (p n : Nat) : (s.take (p + n)).drop p = (s.drop p).take n := by
 rw [List.drop_take]; congr 1; omega
theorem one_call (x : WdH) (p : Nat) (hp : x.a = p) (hx : WdOk x) (hR : WdR x) (ha : p < x.s.length) (k : Out → Ans) : iFun Tryz.prog (layG3.hd Tryz.prog) layG3.fhs 0 214 [.ptr (.hp 3) 0] x.heap k =
 cond ((oneM (x.s.drop p)).e == 0) (k (.ret (.agg [.int .i64 (oneM (x.s.drop p)).kind, .str (oneM (x.s.drop p)).text, .int .i64 (x.base + p)]) ({ x with a := ((p + (oneM (x.s.drop p)).len : Nat) : Int) } : WdH).heap))
  (k (.panic (flt (x.base + ((p + (oneM (x.s.drop p)).off : Nat) : Int)) (oneM (x.s.drop p)).e) x.heap)) := by
 have hx' := hx
 obtain ⟨U0, U1, U2, s, base, a, o, O⟩ := x
 obtain ⟨h1, h2, h3⟩ := hx'
 simp only at h1 h2 h3 ha hp ⊢
 subst hp
 obtain ⟨c, hc⟩ : ∃ c, c = s.getD p 0 := ⟨_, rfl⟩
 have htl : (s.drop p).length = s.length - p := by simp
 have htp : 0 < (s.drop p).length := by omega
 have hg : (s.drop p).getD 0 0 = c := by rw [List.getD_drop, hc]; rfl
 rw [one_fun U0 U1 U2 s base p o O k true (by rw [dT (by omega)]) _ rfl (c.toNat : Int) (by rw [Int.toNat_natCast, hc]) (p : Int) (by rw [Int.toNat_natCast]) (s.drop p) (by rw [Int.toNat_natCast]) _ rfl ((p + runN (s.drop p) : Nat) : Int) (by rw [Int.toNat_natCast])
  _ rfl true (tst_true ⟨⟨hx, by rw [Int.toNat_natCast]; exact ha⟩, .refl _, rfl⟩).symm _ rfl ((p + (dotM (s.drop p)).2 : Nat) : Int) (by rw [Int.toNat_natCast]) _ rfl ((p + (dollarM (s.drop p)).2 : Nat) : Int) (by rw [Int.toNat_natCast]) _ rfl _ rfl (digM (s.drop p)).1 rfl ((p + (digM (s.drop p)).2 : Nat) : Int) (by rw [Int.toNat_natCast]; rfl)
  (p + 1) (by rw [Int.toNat_natCast]) (strQ p (s.drop (p + 1)) [] (p + 1)).e (by rw [Int.toNat_natCast]) ((p + 2 : Nat) : Int) (by rw [wrap_of (by omega) (by omega)]; omega) ((p + 1 : Nat) : Int) (by rw [wrap_of (by omega) (by omega)]; omega)]
 simp (disch := first | omega | decide) only [Int.toNat_natCast, dT, Bool.true_and, cond_true, ltrI_eq, eqc, gec, lec, bif_or, bif_and, wrap_of, List.take_length]
 unfold oneM
 rw [hg]
 have cutG : ∀ (kk : Int) (r : Int × Nat) (X : Option Out), r.2 ≤ (s.drop p).length →
  (bif r.1 == 0 then (bif decide (((p + r.2 : Nat) : Int) ≤ (s.length : Int)) then k (.ret (.agg [.int .i64 kk, .str ((s.take (p + r.2)).drop p), .int .i64 (base + p)]) [U0, U1, U2, .var [.str s, .int .i64 base, .int .i64 ((p + r.2 : Nat) : Int), o], .note wsT 4, O, .note wdT 0]) else none)
   else k (.panic (flt (base + p) r.1) (WdH.mk U0 U1 U2 s base p o O).heap)) =
  cond ((cutR kk (s.drop p) r).e == 0) (k (.ret (.agg [.int .i64 (cutR kk (s.drop p) r).kind, .str (cutR kk (s.drop p) r).text, .int .i64 (base + p)]) (WdH.mk U0 U1 U2 s base ((p + (cutR kk (s.drop p) r).len : Nat) : Int) o O).heap)) (k (.panic (flt (base + ((p + (cutR kk (s.drop p) r).off : Nat) : Int)) (cutR kk (s.drop p) r).e) (WdH.mk U0 U1 U2 s base p o O).heap)) := by
  intro kk r X hr
  unfold cutR
  simp only
  rw [dT (show ((p + r.2 : Nat) : Int) ≤ (s.length : Int) by omega), cut_eq]
  rfl
 cases b1 : ltr c || c == 95 with
 | true =>
  simp only [cond_true]
  refine (congrArg (fun c => cond c _ none) (tst_true ⟨⟨hx, show p ≤ s.length by omega, by omega⟩, .refl _, by trivial⟩)).trans ?_
  exact cutG 1 (idE (s.drop p), runN (s.drop p)) none (runN_le _)
 | false =>
  simp only [cond_false]
  cases b2 : c == 46 with
  | true => simp only [cond_true]; exact cutG 2 (dotM (s.drop p)) none (dotM_le htp)
  | false =>
   simp only [cond_false]
   cases b3 : c == 36 with
   | true => simp only [cond_true]; exact cutG 3 (dollarM (s.drop p)) none (dollarM_le htp)
   | false =>
    simp only [cond_false]
    have ec : (c == 45 || (decide (48 ≤ c.toNat) && decide (c.toNat ≤ 57))) = (c == 45 || dig c) := rfl
    rw [ec]
    cases b4 : c == 45 || dig c with
    | true => simp only [cond_true]; exact cutG 4 (digM (s.drop p)) none (digM_le htp)
    | false =>
     simp only [cond_false]
     cases b5 : c == 34 with
     | true =>
      simp only [cond_true]
      refine (congrArg (fun c => cond c _ none) (tst_true ⟨⟨hx, hR, ha⟩, .refl _, by trivial⟩)).trans ?_
      simp only [cond_true]
      obtain ⟨q1, q2, q3, q4⟩ := strQ_shift p _ (s.drop (p + 1)) [] 1 (Nat.le_refl _)
      have ed : (s.drop p).drop 1 = s.drop (p + 1) := by rw [List.drop_drop]
      rw [ed, q1, q2]
      cases he : (strQ 0 (s.drop (p + 1)) [] 1).e == 0 with
      | true =>
       rw [(q4 (by simpa using he)).1]
       rfl
      | false =>
       rw [q3 (by simpa using he)]
       rfl
     | false =>
      simp only [cond_false]
      cases b6 : [58, 61].isPrefixOf (s.drop p) with
      | true =>
       simp only [cond_true]
       have h2' := pre_two b6
       exact cutG 6 (0, 2) none h2'
      | false =>
       simp only [cond_false]
       cases b7 : c == 124 with
       | true => simp only [cond_true, Bool.not_true, cond_false]; have := cutG 6 (0, 1) none htp; rw [dT (show ((p + (0, 1).2 : Nat) : Int) ≤ (s.length : Int) by simp only; omega)] at this; exact this
       | false => rfl
end Go.Mu
namespace Go.Mu
open Go Go.Proofs
section
variable {P : Program}
theorem Evo.widen {X : Nat → Prop} {w w' : World} {E E' : Env} {H H' : Heap} (ev : Evo No w E H w' E' H') : Evo X w E H w' E' H' :=
 ⟨ev.size, fun b hb _ hl => ev.kept b hb (fun h => h) hl, ev.immKept, ev.immNew, ev.var, ev.arr, ev.phi, ev.len, ev.tape, ev.os, ev.output⟩
theorem CodeOK.relink {c : Code} {st st' : St} {e : AExit} {i n j : Nat} (h : CodeOK P c { st with H := relAt i n j st.H } e st') : CodeOK P c st e st' := by
 intro w a E β ci
 unfold relAt at h
 split at h
 · rename_i h1 h2
   split at h
   · rename_i x h3
     rw [Bool.cond_eq_ite] at h
     split at h
     · rename_i h4
       obtain ⟨ev, sim⟩ := Mu.relink ci.fs.sim h1 h3 h4 h2
       exact wp_mono (h w a _ β (ci.drop ev sim)) (fun x a' w' hx => hx.trans ev.widen (fun t b hb => .inl hb))
     · exact h w a E β ci
   · exact h w a E β ci
 · exact h w a E β ci
noncomputable def loopSpecR (r : Nat × Nat × Nat) (n : Nat) (l m lx mx : List Nat) (sp : LSp) (st : St) (k : Kont) : Ans := loopSpec n l m lx mx sp { st with H := relAt r.1 r.2.1 r.2.2 st.H } k
theorem LoopTold.link {d : Code} {r : Nat × Nat × Nat} {n : Nat} {l m lx mx : List Nat} {sp : LSp} (h : LoopTold P d (loopSpec n l m lx mx sp)) : LoopTold P d (loopSpecR r n l m lx mx sp) := by
 intro st k out hi
 obtain ⟨e, st', h1, h2⟩ := h _ k out hi
 exact ⟨e, st', h1.relink, h2⟩
theorem Lay.OK.loop1R {L : Lay} (h : L.OK P) {fh : FH} {f id n : Nat} {l m lx mx : List Nat} {sp : LSp} {r : Nat × Nat × Nat} (e1 : loopsIn (codeOf P f) = [loopAt id (codeOf P f)]) (e2 : loopsIn (loopAt id (codeOf P f)) = [])
 (e3 : fh.loops (firstRegion (loopAt id (codeOf P f))) = some (loopSpecR r n l m lx mx sp)) (hs : SpOK (lturn P L fh f id l m lx mx) n l m lx mx sp) : (L.addL f fh).OK P := by
 refine h.addL (LOk.of _ (fun d hd sp' hsp => ?_))
 rw [e1, List.mem_singleton] at hd
 subst hd
 rw [e3, Option.some.injEq] at hsp
 subst hsp
 exact (h.told (LOk.of _ (fun d hd => by rw [e2] at hd; cases hd)) hs).link
end
noncomputable def oneTold : FSp := mkF (fun xs H => WdH.dec H) (fun x => WdOk x ∧ WdR x ∧ 0 ≤ x.a ∧ x.a < x.s.length) (fun x => [.ptr (.hp 3) 0]) (fun x => x.heap)
 (fun x k => cond ((oneM (x.s.drop x.a.toNat)).e == 0) (k (.ret (.agg [.int .i64 (oneM (x.s.drop x.a.toNat)).kind, .str (oneM (x.s.drop x.a.toNat)).text, .int .i64 (x.base + (x.a.toNat : Int))]) ({ x with a := ((x.a.toNat + (oneM (x.s.drop x.a.toNat)).len : Nat) : Int) } : WdH).heap))
  (k (.panic (flt (x.base + ((x.a.toNat + (oneM (x.s.drop x.a.toNat)).off : Nat) : Int)) (oneM (x.s.drop x.a.toNat)).e) x.heap)))
theorem oneTold_ok : ∀ xs H k out, oneTold xs H k = some out → ∃ o, CallOK Tryz.prog 214 xs H o ∧ k o = some out := mkF_ok fun x h => by
 obtain ⟨h1, h2, h3, h4⟩ := h
 have key := one_call x x.a.toNat (by omega) h1 h2 (by omega)
 show ∃ o, (∀ k : Out → Ans, cond ((oneM (x.s.drop x.a.toNat)).e == 0) _ _ = k o) ∧ _
 cases hb : (oneM (x.s.drop x.a.toNat)).e == 0 with
 | true => simp only [hb, cond_true] at key; exact ⟨_, fun k => rfl, layG3_ok.call key⟩
 | false => simp only [hb, cond_false] at key; exact ⟨_, fun k => rfl, layG3_ok.call key⟩
noncomputable def layV1 : Lay := layX3.addF 214 oneTold
theorem layV1_ok : layV1.OK Tryz.prog := layX3_ok.addF oneTold_ok
abbrev wdV (s : Oc) (at_ : Int) : List AVal := [.str s, .int .i64 at_, .ptr (.hp 0) 0, .ptr (.hp 1) 0, .ptr (.hp 2) 0, .ptr (.hp 3) 0]
abbrev wdV' (at_ : Int) : List AVal := [.int .i64 at_, .ptr (.hp 0) 0, .ptr (.hp 1) 0, .ptr (.hp 2) 0, .ptr (.hp 3) 0]
theorem dotsM_pos {t : Oc} {m : Nat} (h : hd1 t = true) (h2 : (t.getD 0 0 == 46) = true) (he : (dotsM (m + 1) t).1 = 0) : 1 ≤ (dotsM (m + 1) t).2 := by
 have h1 : decide (1 < t.length) = true := by
  unfold hd1 at h
  rw [Bool.and_eq_true] at h
  exact h.1
 rw [dotsM, h1, h2] at he ⊢
 simp only [Bool.and_self, cond_true] at he ⊢
 cases hb : idE (t.drop 1) == 0 with
 | true => simp only [cond_true]; omega
 | false =>
  rw [hb] at he
  simp only [cond_false] at he
  rw [he] at hb
  cases hb
theorem strQ_pos : ∀ {n : Nat} {t acc : Oc} {i : Nat}, (strQ 0 t acc i).e = 0 → 1 ≤ (strQ 0 t acc i).upto_ := by
 have : ∀ (n : Nat) (t acc : Oc) (i : Nat), t.length ≤ n → (strQ 0 t acc i).e = 0 → 1 ≤ (strQ 0 t acc i).upto_ := by
  intro n
  induction n with
  | zero =>
   intro t acc i h he
   have : t = [] := List.eq_nil_of_length_eq_zero (by omega)
   subst this
   cases he
  | succ n ih =>
   intro t acc i h he
   match t, h, he with
   | [c], h, he =>
    rw [strQ] at he ⊢
    cases h1 : c == 34 with
    | true =>
     cases h2 : decide (acc.length ≤ 4096) with
     | true => simp only [cond_true]; omega
     | false => rw [h1, h2] at he; cases he
    | false =>
     rw [h1] at he
     cases h3 : c == 92 || c == 10
     · rw [h3] at he; cases he
     · rw [h3] at he; cases he
   | c :: d :: u, h, he =>
    rw [strQ] at he ⊢
    simp only [List.length_cons] at h
    cases h1 : c == 34 with
    | true =>
     cases h2 : decide (acc.length ≤ 4096) with
     | true => simp only [cond_true]; omega
     | false => rw [h1, h2] at he; cases he
    | false =>
     simp only [h1, cond_false] at he ⊢
     cases h3 : c == 92 && decide (escI d ≥ 0) with
     | true => simp only [h3, cond_true] at he ⊢; exact ih _ _ _ (by omega) he
     | false =>
      simp only [h3, cond_false] at he ⊢
      cases h4 : c == 92 || c == 10 with
      | true => rw [h4] at he; cases he
      | false => simp only [h4, cond_false] at he ⊢; exact ih _ _ _ (by simp only [List.length_cons]; omega) he
 intro n t acc i he
 exact this _ t acc i (Nat.le_refl _) he
theorem one_len {t : Oc} (ht : t ≠ []) (he : (oneM t).e = 0) : 1 ≤ (oneM t).len ∧ (oneM t).len ≤ t.length := by
 have hl : 0 < t.length := List.length_pos_iff.2 ht
 unfold oneM at he ⊢
 cases b1 : ltr (t.getD 0 0) || t.getD 0 0 == 95 with
 | true =>
  simp only [b1, cond_true, cutR] at he ⊢
  refine ⟨?_, runN_le t⟩
  unfold idE at he
  by_cases h0 : 0 < runN t
  · exact h0
  · rw [dF h0] at he
    simp at he
 | false =>
  simp only [b1, cond_false] at he ⊢
  cases b2 : t.getD 0 0 == 46 with
  | true =>
   simp only [b2, cond_true, cutR] at he ⊢
   refine ⟨?_, dotM_le hl⟩
   unfold dotM at he ⊢
   cases h1 : hd1 t with
   | false => simp
   | true =>
    simp only [h1, cond_true] at he ⊢
    obtain ⟨m, hm⟩ : ∃ m, t.length = m + 1 := ⟨t.length - 1, by omega⟩
    rw [hm] at he ⊢
    exact dotsM_pos h1 b2 he
  | false =>
   simp only [b2, cond_false] at he ⊢
   cases b3 : t.getD 0 0 == 36 with
   | true =>
    simp only [b3, cond_true, cutR] at he ⊢
    refine ⟨?_, dollarM_le hl⟩
    unfold dollarM at he ⊢
    cases h1 : hd1 t with
    | false => simp only [cond_false]; omega
    | true =>
     cases h2 : idE (t.drop 1) == 0 with
     | true => simp only [cond_true]; omega
     | false =>
      simp only [h1, h2, cond_true, cond_false] at he
      rw [he] at h2
      cases h2
   | false =>
    simp only [b3, cond_false] at he ⊢
    cases b4 : t.getD 0 0 == 45 || dig (t.getD 0 0) with
    | true =>
     simp only [b4, cond_true, cutR] at he ⊢
     refine ⟨?_, digM_le hl⟩
     unfold digM
     simp only; omega
    | false =>
     simp only [b4, cond_false] at he ⊢
     cases b5 : t.getD 0 0 == 34 with
     | true =>
      simp only [b5, cond_true] at he ⊢
      obtain ⟨q1, q2, q3, q4⟩ := strQ_shift 1 _ (t.drop 1) [] 0 (Nat.le_refl _)
      have ha := strQ_shift 0 _ (t.drop 1) [] 1 (Nat.le_refl _)
      have hb := (ha.2.2.2 he).2
      rw [List.length_drop] at hb
      refine ⟨strQ_pos (n := 0) he, by omega⟩
     | false =>
      simp only [b5, cond_false] at he ⊢
      cases b6 : [58, 61].isPrefixOf t with
      | true => simp only [cond_true, cutR]; exact ⟨by omega, pre_two b6⟩
      | false => simp only [cond_false, cutR]; exact ⟨Nat.le_refl _, hl⟩
structure WdD where
 kind : Int
 text : Oc
 at_ : Nat
def encWd (base : Int) (d : WdD) : List AVal := [.int .i64 d.kind, .str d.text, .int .i64 (base + (d.at_ : Int))]
def wdsM : Nat → Oc → Nat → List WdD × Option (Nat × Nat × Int)
 | 0, _, _ => ([], none)
 | m + 1, t, p => bif t == [] then ([], none) else bif blk (t.getD 0 0) then wdsM m (t.drop 1) (p + 1)
  else bif (oneM t).e == 0 then (⟨(oneM t).kind, (oneM t).text, p⟩ :: (wdsM m (t.drop (oneM t).len) (p + (oneM t).len)).1, (wdsM m (t.drop (oneM t).len) (p + (oneM t).len)).2)
  else ([], some (p, (oneM t).off, (oneM t).e))
abbrev wdH (U0 U1 U2 : Obj) (s : Oc) (base a : Int) (rows : List (List AVal)) (u : Nat) : Heap := HwP U0 U1 U2 s base a (.own 5 0 rows.length u false) (.arr 3 rows u)
structure WvA where
 w : WdH
 rows : List (List AVal)
 u : Nat
def WvOk (x : WvA) : Prop := WdOk x.w ∧ (refsO 7 x.w.U0 = true ∧ refsO 7 x.w.U1 = true ∧ refsO 7 x.w.U2 = true) ∧ 0 ≤ x.w.a ∧ x.w.a ≤ x.w.s.length ∧ (x.rows.length : Int) ≤ x.w.a ∧ ∃ ds : List WdD, x.rows = ds.map (encWd x.w.base)
abbrev wvR (x : WvA) : List WdD × Option (Nat × Nat × Int) := wdsM x.w.s.length (x.w.s.drop x.w.a.toNat) x.w.a.toNat
abbrev wvRows (x : WvA) : List (List AVal) := x.rows ++ (wvR x).1.map (encWd x.w.base)
noncomputable def wdsSp : LSp := mkL (fun vs _ H => WvA.mk (WdH.dec H) (rowsO (H.getD 5 (.var []))) (verO (H.getD 5 (.var [])))) WvOk (fun x => wdV x.w.s x.w.base) (fun _ => []) (fun x => wdH x.w.U0 x.w.U1 x.w.U2 x.w.s x.w.base x.w.a x.rows x.u)
 (fun x k => cond (wvR x).2.isSome
  (k (.panic (flt (x.w.base + ((((wvR x).2.getD (0, 0, 0)).1 + ((wvR x).2.getD (0, 0, 0)).2.1 : Nat) : Int)) ((wvR x).2.getD (0, 0, 0)).2.2)) (wdV' x.w.base) [] (wdH x.w.U0 x.w.U1 x.w.U2 x.w.s x.w.base (((wvR x).2.getD (0, 0, 0)).1 : Nat) (wvRows x) (x.u + (wvR x).1.length)))
  (k (.exit 0) (wdV' x.w.base) [] (wdH x.w.U0 x.w.U1 x.w.U2 x.w.s x.w.base x.w.s.length (wvRows x) (x.u + (wvR x).1.length))))
noncomputable def wdsFH : FH := { FH.of [(3, loopSpecR (3, 3, 5) 50 [0,1,4,5,6,7] [] [1,4,5,6,7] [] wdsSp)] with heap := [4, 5, 6, 12], typed := [(12, [(2, wdT)])] }
theorem wds_step (U0 U1 U2 : Obj) (s : Oc) (base a : Int) (m u : Nat) (rows : List (List AVal)) (D : Dfs) (k : Kont) : lturn Tryz.prog layV1 wdsFH 158 3 [0,1,4,5,6,7] [] [1,4,5,6,7] [] (stL 50 [0,1,4,5,6,7] (wdV s base) [] [] (HwP U0 U1 U2 s base a (.own 5 0 m u false) (.arr 3 rows u)) D) k = (
 let c0 : Bool := decide (a < (↑s.length : Int));
 let z3 := oneM (List.drop a.toNat s);
 let n1 : Int := z3.e;
 let m2 : Nat := m + 1;
 let m3 : Nat := u + 1;
 let z0 := WdH.mk U0 U1 U2 s base a (AVal.own 5 0 m u false) (Obj.arr 3 rows u);
 let z1 := [AVal.str s, AVal.int .i64 base, AVal.ptr (Oid.hp 0) 0, AVal.ptr (Oid.hp 1) 0, AVal.ptr (Oid.hp 2) 0, AVal.ptr (Oid.hp 3) 0];
 let z2 := [AVal.int .i64 base, AVal.ptr (Oid.hp 0) 0, AVal.ptr (Oid.hp 1) 0, AVal.ptr (Oid.hp 2) 0, AVal.ptr (Oid.hp 3) 0];
  bif c0 then bif decide (0 ≤ a) && c0 then bif blkI (↑(s.getD a.toNat 0).toNat : Int) then k AExit.normal (stL 50 [0, 1, 4, 5, 6, 7] z1 [] [] [U0, U1, U2, Obj.var [AVal.str s, AVal.int .i64 base, AVal.int .i64 (IntKind.i64.wrap (a + 1)), AVal.own 5 0 m u false], Obj.note 288 4, Obj.arr 3 rows u, Obj.note 244 0] D) else bif tst ((WdOk z0 ∧ WdR z0 ∧ 0 ≤ a ∧ a < (↑s.length : Int)) ∧ SubL [AVal.ptr (Oid.hp 3) 0] [AVal.ptr (Oid.hp 3) 0] ∧ HwP U0 U1 U2 s base a (AVal.own 5 0 m u false) (Obj.arr 3 rows u) = z0.heap) then bif n1 == 0 then bif u == u && m == rows.length && decide ((2 * m2 + 1000) * 32 ≤ 281474976710656) && true then bif sameV (AVal.own 5 0 m u false) (AVal.own 5 0 m u false) && true && true && true then k AExit.normal (stL 50 [0, 1, 4, 5, 6, 7] z1 [] [] [U0, U1, U2, Obj.var [AVal.str s, AVal.int .i64 base, AVal.int .i64 (↑(a.toNat + z3.len) : Int), AVal.own 5 0 m2 m3 false], Obj.note 288 4, Obj.arr 3 (rows.append [[AVal.int .i64 z3.kind, AVal.str z3.text, AVal.int .i64 (base + (↑a.toNat : Int))]]) m3, Obj.note 244 0] D) else none else none else k (AExit.panic (flt (base + (↑(a.toNat + z3.off) : Int)) n1)) (stL 50 [1, 4, 5, 6, 7] z2 [] [] z0.heap D) else none else none else k (AExit.exit 0) (stL 50 [1, 4, 5, 6, 7] z2 [] [] (HwP U0 U1 U2 s base a (AVal.own 5 0 m u false) (Obj.arr 3 rows u)) D)) := by kernel_rfl
theorem wdR_of {U0 U1 U2 : Obj} {s : Oc} {base a : Int} {rows : List (List AVal)} {u : Nat} (h0 : refsO 7 U0 = true) (h1 : refsO 7 U1 = true) (h2 : refsO 7 U2 = true) {n : Nat} {ds : List WdD} (hr : rows = ds.map (encWd base)) : ∀ o ∈ HwP U0 U1 U2 s base a (.own 5 0 n u false) (.arr 3 rows u), refsO 7 o = true := by
 intro o ho
 simp only [HwP, List.mem_cons, List.not_mem_nil, or_false] at ho
 rcases ho with rfl | rfl | rfl | rfl | rfl | rfl | rfl
 · exact h0
 · exact h1
 · exact h2
 · rfl
 · rfl
 · subst hr
   simp only [refsO, List.all_map, List.all_eq_true]
   intro d _
   rfl
 · rfl
theorem wds_runs (U0 U1 U2 : Obj) (s : Oc) (base : Int) (hs : s.length ≤ 1073741824) (hb0 : 0 ≤ base) (hb1 : base ≤ 1099511627776) (g0 : refsO 7 U0 = true) (g1 : refsO 7 U1 = true) (g2 : refsO 7 U2 = true) : ∀ (m p u : Nat) (rows : List (List AVal)) (ds : List WdD), rows = ds.map (encWd base) → s.length - p ≤ m → p ≤ s.length → rows.length ≤ p →
 ((wdsM m (s.drop p) p).2 = none → LoopRuns (lturn Tryz.prog layV1 wdsFH 158 3 [0,1,4,5,6,7] [] [1,4,5,6,7] []) 50 [0,1,4,5,6,7] [] [1,4,5,6,7] [] (wdV s base) [] (wdH U0 U1 U2 s base p rows u) (.exit 0) (wdV' base) [] (wdH U0 U1 U2 s base s.length (rows ++ (wdsM m (s.drop p) p).1.map (encWd base)) (u + (wdsM m (s.drop p) p).1.length))) ∧
 (∀ q off e, (wdsM m (s.drop p) p).2 = some (q, off, e) → LoopRuns (lturn Tryz.prog layV1 wdsFH 158 3 [0,1,4,5,6,7] [] [1,4,5,6,7] []) 50 [0,1,4,5,6,7] [] [1,4,5,6,7] [] (wdV s base) [] (wdH U0 U1 U2 s base p rows u) (.panic (flt (base + ((q + off : Nat) : Int)) e)) (wdV' base) [] (wdH U0 U1 U2 s base q (rows ++ (wdsM m (s.drop p) p).1.map (encWd base)) (u + (wdsM m (s.drop p) p).1.length))) := by
 intro m
 induction m with
 | zero =>
  intro p u rows ds hr hm hp hl
  have hps : p = s.length := by omega
  refine ⟨fun _ => .stop (by simp) (fun D k => ?_), fun q off e h => by cases h⟩
  rw [wds_step]
  simp (disch := omega) only [dF, cond_false]
  subst hps
  simp only [wdsM, List.map_nil, List.append_nil, List.length_nil, Nat.add_zero]
 | succ m ih =>
  intro p u rows ds hr hm hp hl
  by_cases hlt : p < s.length
  case neg =>
   have hps : p = s.length := by omega
   have e : s.drop p = [] := List.drop_eq_nil_of_le (by omega)
   rw [e]
   refine ⟨fun _ => .stop (by simp) (fun D k => ?_), fun q off e h => by cases h⟩
   rw [wds_step]
   simp (disch := omega) only [dF, cond_false]
   subst hps
   show k _ _ = k _ _
   simp only [wdsM, List.map_nil, List.append_nil, List.length_nil, Nat.add_zero]
   simp
  have key := fun D k => wds_step U0 U1 U2 s base p rows.length u rows D k
  have hne : s.drop p ≠ [] := by
   intro e
   have := congrArg List.length e
   simp at this; omega
  have hne2 : (s.drop p == []) = false := by simpa using hne
  have hg : (s.drop p).getD 0 0 = s.getD p 0 := by rw [List.getD_drop]; rfl
  have e2 : IntKind.i64.wrap ((p : Int) + 1) = ((p + 1 : Nat) : Int) := by rw [wrap_of (by omega) (by omega)]; omega
  simp (disch := omega) only [dT, cond_true, Bool.and_self, Int.toNat_natCast, blkI_eq, e2, sameV_refl, beq_self_eq_true, Bool.and_true, Bool.true_and] at key
  rw [wdsM, hne2, hg]
  simp only [cond_false]
  cases hbk : blk (s.getD p 0) with
  | true =>
   simp only [hbk, cond_true] at key ⊢
   have ed : (s.drop p).drop 1 = s.drop (p + 1) := by rw [List.drop_drop]
   rw [ed]
   have := ih (p + 1) u rows ds hr (by omega) (by omega) (by omega)
   exact ⟨fun h => .step key (this.1 h), fun q off e h => .step key (this.2 q off e h)⟩
  | false =>
   simp only [hbk, cond_false] at key ⊢
   replace key := fun D k => (key D k).trans ((congrArg (fun c => cond c _ none) (tst_true ⟨⟨⟨hs, hb0, hb1⟩, wdR_of g0 g1 g2 hr, by omega, by omega⟩, .refl _, by trivial⟩)).trans rfl)
   cases he : (oneM (s.drop p)).e == 0 with
   | true =>
    obtain ⟨l1, l2⟩ := one_len hne (by simpa using he)
    rw [List.length_drop] at l2
    simp (disch := omega) only [he, cond_true, dT] at key ⊢
    have ed : (s.drop p).drop (oneM (s.drop p)).len = s.drop (p + (oneM (s.drop p)).len) := by rw [List.drop_drop]
    rw [ed]
    have := ih (p + (oneM (s.drop p)).len) (u + 1) (rows ++ [encWd base ⟨(oneM (s.drop p)).kind, (oneM (s.drop p)).text, p⟩]) (ds ++ [⟨(oneM (s.drop p)).kind, (oneM (s.drop p)).text, p⟩]) (by rw [hr, List.map_append]; rfl) (by omega) (by omega) (by rw [List.length_append]; show _ + 1 ≤ _; omega)
    rw [show u + 1 + (wdsM m (s.drop (p + (oneM (s.drop p)).len)) (p + (oneM (s.drop p)).len)).1.length = u + ((wdsM m (s.drop (p + (oneM (s.drop p)).len)) (p + (oneM (s.drop p)).len)).1.length + 1) by omega] at this
    have ew : ∀ (a : Int) (r : List AVal) (v : Nat), wdH U0 U1 U2 s base a (rows ++ [r]) v = HwP U0 U1 U2 s base a (.own 5 0 (rows.length + 1) v false) (.arr 3 (rows ++ [r]) v) := fun a r v => by
     show HwP U0 U1 U2 s base a (.own 5 0 (rows ++ [r]).length v false) (.arr 3 (rows ++ [r]) v) = _
     rw [List.length_append]; rfl
    rw [ew] at this
    simp only [List.append_assoc, List.singleton_append, List.map_cons, List.length_cons, List.length_append, List.length_nil, Nat.zero_add] at this ⊢
    exact ⟨fun h => .step key (this.1 h), fun q off e h => .step key (this.2 q off e h)⟩
   | false =>
    simp only [he, cond_false] at key ⊢
    refine ⟨(fun h => by cases h), fun q off e h => ?_⟩
    cases h
    simp only [List.map_nil, List.append_nil, List.length_nil, Nat.add_zero]
    exact .stop (by simp) key
theorem wdsSp_ok : SpOK (lturn Tryz.prog layV1 wdsFH 158 3 [0,1,4,5,6,7] [] [1,4,5,6,7] []) 50 [0,1,4,5,6,7] [] [1,4,5,6,7] [] wdsSp := mkL_ok fun x h => by
 obtain ⟨⟨U0, U1, U2, s, base, a, o, O⟩, rows, u⟩ := x
 obtain ⟨⟨h1, h2, h3⟩, ⟨g0, g1, g2⟩, h4, h5, h6, ds, h7⟩ := h
 simp only at h1 h2 h3 h4 h5 h6 h7 g0 g1 g2
 obtain ⟨p, rfl⟩ : ∃ p : Nat, a = p := ⟨a.toNat, by omega⟩
 have key := wds_runs U0 U1 U2 s base h1 h2 h3 g0 g1 g2 s.length p u rows ds h7 (by omega) (by omega) (by omega)
 show ∃ e vs bs H, (∀ k : AExit → List AVal → List (List AVal) → Heap → Ans, cond (wdsM s.length (s.drop p) p).2.isSome _ _ = k e vs bs H) ∧ LoopRuns _ _ _ _ _ _ (wdV s base) [] (wdH U0 U1 U2 s base p rows u) _ _ _ _
 cases hb : (wdsM s.length (s.drop p) p).2 with
 | none => 
  have := key.1 hb
  refine ⟨_, _, _, _, fun k => rfl, ?_⟩
  exact this
 | some v =>
  obtain ⟨q, off, e⟩ := v
  have := key.2 q off e hb
  refine ⟨_, _, _, _, fun k => ?_, this⟩
  show k (.panic (flt (base + ((((wdsM s.length (s.drop p) p).2.getD (0, 0, 0)).1 + ((wdsM s.length (s.drop p) p).2.getD (0, 0, 0)).2.1 : Nat) : Int)) ((wdsM s.length (s.drop p) p).2.getD (0, 0, 0)).2.2)) _ _ (wdH U0 U1 U2 s base (((wdsM s.length (s.drop p) p).2.getD (0, 0, 0)).1 : Nat) (wvRows _) _) = _
  rw [hb]
  rfl
noncomputable def layV2 : Lay := layV1.addL 158 wdsFH
theorem layV2_ok : layV2.OK Tryz.prog := layV1_ok.loop1R (r := (3, 3, 5)) (id := 3) (by kernel_rfl) (by kernel_rfl) (by kernel_rfl) wdsSp_ok
theorem words_fun (s : Oc) (base : Int) (k : Out → Ans) (m0 : Nat) (e_m0 : m0 = (((wvR
 (WvA.mk
  (WdH.mk (Obj.var [AVal.list true 0 fun (x : Nat) => []]) (Obj.var [AVal.int .i64 0])
   (Obj.var [AVal.int .i64 0]) s base 0 (AVal.own 5 0 0 1 false) (Obj.arr 3 [] 1))
  [] 1)).snd.getD
 (0, 0, 0)).fst))
 (m1 : Nat) (e_m1 : m1 = (1 +
  (wvR
   (WvA.mk
    (WdH.mk (Obj.var [AVal.list true 0 fun (x : Nat) => []]) (Obj.var [AVal.int .i64 0])
     (Obj.var [AVal.int .i64 0]) s base 0 (AVal.own 5 0 0 1 false) (Obj.arr 3 [] 1))
    [] 1)).fst.length)) : iFun Tryz.prog (layV2.hd Tryz.prog) layV2.fhs 0 158 [.str s, .int .i64 base] [] k = (
 let z0 := Obj.var [AVal.int .i64 0];
 bif tst (WvOk (WvA.mk (WdH.mk (Obj.var [AVal.list true 0 fun (x : Nat) => []]) z0 z0 s base 0 (AVal.own 5 0 0 1 false) (Obj.arr 3 [] 1)) [] 1) ∧ SubTL [AVal.str s, AVal.int .i64 base, AVal.ptr (Oid.hp 0) 0, AVal.ptr (Oid.hp 1) 0, AVal.ptr (Oid.hp 2) 0, AVal.ptr (Oid.hp 3) 0] (wdV s base) ∧ ([] : List (List AVal)) = [] ∧ relAt 3 3 5 [Obj.var [AVal.list true 0 fun (x : Nat) => []], Obj.var [AVal.int .i64 0], Obj.var [AVal.int .i64 0], Obj.var [AVal.str s, AVal.int .i64 base, AVal.int .i64 0, AVal.list true 0 fun (x : Nat) => []], Obj.note 288 4, Obj.arr 3 [] 0, Obj.note 244 0] = wdH (Obj.var [AVal.list true 0 fun (x : Nat) => []]) z0 z0 s base 0 [] 1) then bif (wvR (WvA.mk (WdH.mk (Obj.var [AVal.list true 0 fun (x : Nat) => []]) z0 z0 s base 0 (AVal.own 5 0 0 1 false) (Obj.arr 3 [] 1)) [] 1)).snd.isSome then k (Out.ret (AVal.tuple [AVal.list true 0 fun (x : Nat) => [], AVal.int .i64 (base + (↑(m0 + ((wvR (WvA.mk (WdH.mk (Obj.var [AVal.list true 0 fun (x : Nat) => []]) z0 z0 s base 0 (AVal.own 5 0 0 1 false) (Obj.arr 3 [] 1)) [] 1)).snd.getD (0, 0, 0)).snd.fst) : Int)), AVal.int .i64 ((wvR (WvA.mk (WdH.mk (Obj.var [AVal.list true 0 fun (x : Nat) => []]) z0 z0 s base 0 (AVal.own 5 0 0 1 false) (Obj.arr 3 [] 1)) [] 1)).snd.getD (0, 0, 0)).snd.snd]) [Obj.var [AVal.list true 0 fun (x : Nat) => []], Obj.var [AVal.int .i64 (base + (↑(m0 + ((wvR (WvA.mk (WdH.mk (Obj.var [AVal.list true 0 fun (x : Nat) => []]) z0 z0 s base 0 (AVal.own 5 0 0 1 false) (Obj.arr 3 [] 1)) [] 1)).snd.getD (0, 0, 0)).snd.fst) : Int))], Obj.var [AVal.int .i64 ((wvR (WvA.mk (WdH.mk (Obj.var [AVal.list true 0 fun (x : Nat) => []]) z0 z0 s base 0 (AVal.own 5 0 0 1 false) (Obj.arr 3 [] 1)) [] 1)).snd.getD (0, 0, 0)).snd.snd], Obj.var [AVal.str s, AVal.int .i64 base, AVal.int .i64 (↑m0 : Int), AVal.own 5 0 (wvRows (WvA.mk (WdH.mk (Obj.var [AVal.list true 0 fun (x : Nat) => []]) z0 z0 s base 0 (AVal.own 5 0 0 1 false) (Obj.arr 3 [] 1)) [] 1)).length m1 false], Obj.note 288 4, Obj.arr 3 (wvRows (WvA.mk (WdH.mk (Obj.var [AVal.list true 0 fun (x : Nat) => []]) z0 z0 s base 0 (AVal.own 5 0 0 1 false) (Obj.arr 3 [] 1)) [] 1)) m1, Obj.note 244 0]) else k (Out.ret (AVal.tuple [AVal.own 5 0 (wvRows (WvA.mk (WdH.mk (Obj.var [AVal.list true 0 fun (x : Nat) => []]) z0 z0 s base 0 (AVal.own 5 0 0 1 false) (Obj.arr 3 [] 1)) [] 1)).length m1 false, AVal.int .i64 base, AVal.int .i64 0]) [Obj.var [AVal.own 5 0 (wvRows (WvA.mk (WdH.mk (Obj.var [AVal.list true 0 fun (x : Nat) => []]) z0 z0 s base 0 (AVal.own 5 0 0 1 false) (Obj.arr 3 [] 1)) [] 1)).length m1 false], Obj.var [AVal.int .i64 base], Obj.var [AVal.int .i64 0], Obj.var [AVal.str s, AVal.int .i64 base, AVal.int .i64 (↑s.length : Int), AVal.own 5 0 (wvRows (WvA.mk (WdH.mk (Obj.var [AVal.list true 0 fun (x : Nat) => []]) z0 z0 s base 0 (AVal.own 5 0 0 1 false) (Obj.arr 3 [] 1)) [] 1)).length m1 false], Obj.note 288 4, Obj.arr 3 (wvRows (WvA.mk (WdH.mk (Obj.var [AVal.list true 0 fun (x : Nat) => []]) z0 z0 s base 0 (AVal.own 5 0 0 1 false) (Obj.arr 3 [] 1)) [] 1)) m1, Obj.note 244 0]) else none) := by
  subst e_m0 e_m1
  kernel_rfl
theorem freeze_rows {α : Type} {H : Heap} {k sz u : Nat} {f : α → List AVal} {d : α} {l : List α} (hH : H[k]? = some (.arr sz (l.map f) u)) (hp : ∀ a, (f a).mapM (freezeV H 1) = some (f a)) : ∃ v, freezeV H 2 (.own k 0 (l.map f).length u false) = some v ∧ Sub v (encL false f d l) := by
 have hfz := freezeW (len := (l.map f).length) (off := 0) (clip := false) (d := 1) (rows' := l.map f) hH (by simp) (by
  rw [List.drop_zero, List.take_length]
  refine freeze_pures _ 0 _ (fun r hr => ?_)
  obtain ⟨a, _, rfl⟩ := List.mem_map.1 hr
  exact hp a)
 refine ⟨_, hfz, ?_⟩
 show Sub (.list false (l.map f).length _) (.list false l.length _)
 rw [List.length_map]
 refine Sub.list (fun h => h) (fun i hi => ?_)
 have : (l.map f).getD i [] = f (l.getD i d) := by
  simp only [List.getD_eq_getElem?_getD, List.getElem?_map, List.getElem?_eq_getElem hi, Option.map_some, Option.getD_some]
 rw [this]
 exact .refl _
def wordsOf (s : Oc) : List WdD := (wdsM s.length s 0).1
def wordsE (s : Oc) : Option (Nat × Nat × Int) := (wdsM s.length s 0).2
def wdAt (s : Oc) : Nat := ((wordsE s).getD (0, 0, 0)).1 + ((wordsE s).getD (0, 0, 0)).2.1
def wdErr (s : Oc) : Int := ((wordsE s).getD (0, 0, 0)).2.2
abbrev encWds (base : Int) (l : List WdD) : AVal := encL false (encWd base) ⟨0, [], 0⟩ l
abbrev wv0 (s : Oc) (base : Int) : WvA := ⟨⟨.var [nilList], .var [.int .i64 0], .var [.int .i64 0], s, base, 0, .own 5 0 0 1 false, .arr 3 [] 1⟩, [], 1⟩
theorem wv0_ok {s : Oc} {base : Int} (hs : s.length ≤ 1073741824) (h0 : 0 ≤ base) (h1 : base ≤ 1099511627776) : WvOk (wv0 s base) := ⟨⟨hs, h0, h1⟩, ⟨rfl, rfl, rfl⟩, Int.le_refl _, by show (0 : Int) ≤ (s.length : Int); omega, Int.le_refl _, [], rfl⟩
theorem words_good (s : Oc) (base : Int) (hs : s.length ≤ 1073741824) (h0 : 0 ≤ base) (h1 : base ≤ 1099511627776) (hb : (wordsE s).isSome = false) : CallOK Tryz.prog 158 [.str s, .int .i64 base] [] (.ret (.tuple [encWds base (wordsOf s), .int .i64 base, .int .i64 0]) []) := by
 have hr : wvRows (wv0 s base) = (wordsOf s).map (encWd base) := rfl
 have call : ∀ k, iFun Tryz.prog (layV2.hd Tryz.prog) layV2.fhs 0 158 [.str s, .int .i64 base] [] k = k (.ret (.tuple [.own 5 0 (wvRows (wv0 s base)).length (1 + (wordsOf s).length) false, .int .i64 base, .int .i64 0])
  [.var [.own 5 0 (wvRows (wv0 s base)).length (1 + (wordsOf s).length) false], .var [.int .i64 base], .var [.int .i64 0], .var [.str s, .int .i64 base, .int .i64 s.length, .own 5 0 (wvRows (wv0 s base)).length (1 + (wordsOf s).length) false], .note wsT 4, .arr 3 (wvRows (wv0 s base)) (1 + (wordsOf s).length), .note wdT 0]) := fun k => by
  rw [words_fun s base k _ rfl (1 + (wordsOf s).length) rfl]
  refine (congrArg (fun c => cond c _ none) (tst_true ⟨wv0_ok hs h0 h1, .refl _, rfl, rfl⟩)).trans ?_
  have hb' : (wvR (wv0 s base)).2.isSome = false := hb
  exact (congrArg (fun c => cond c _ _) hb').trans rfl
 rw [hr] at call
 obtain ⟨v, g1, g2⟩ := freeze_rows (f := encWd base) (d := ⟨0, [], 0⟩) (l := wordsOf s) (k := 5) (sz := 3) (u := 1 + (wordsOf s).length) (H := [.var [.own 5 0 ((wordsOf s).map (encWd base)).length (1 + (wordsOf s).length) false], .var [.int .i64 base], .var [.int .i64 0], .var [.str s, .int .i64 base, .int .i64 s.length, .own 5 0 ((wordsOf s).map (encWd base)).length (1 + (wordsOf s).length) false], .note wsT 4, .arr 3 ((wordsOf s).map (encWd base)) (1 + (wordsOf s).length), .note wdT 0]) rfl (fun a => rfl)
 exact ((layV2_ok.call call).freeze (d := 3) (freeze_t3 g1)).sub (.refl _) ⟨Sub.tuple (.cons g2 (.refl _)), rfl⟩
theorem words_bad (s : Oc) (base : Int) (hs : s.length ≤ 1073741824) (h0 : 0 ≤ base) (h1 : base ≤ 1099511627776) (hb : (wordsE s).isSome = true) : CallOK Tryz.prog 158 [.str s, .int .i64 base] [] (.ret (.tuple [nilList, .int .i64 (base + (wdAt s : Int)), .int .i64 (wdErr s)]) []) := by
 have hb' : (wvR (wv0 s base)).2.isSome = true := hb
 have key := fun k => (words_fun s base k _ rfl _ rfl).trans ((congrArg (fun c => cond c _ none) (tst_true ⟨wv0_ok hs h0 h1, .refl _, rfl, rfl⟩)).trans ((congrArg (fun c => cond c _ _) hb').trans (cond_true _ _)))
 exact layV2_ok.callF rfl key
def wordsTold : FSp := mkFS [.s, .i .i64] (fun xs => decide ((aS xs 0).length ≤ 1073741824 ∧ 0 ≤ aI xs 1 ∧ aI xs 1 ≤ 1099511627776))
 (fun xs k => cond (wordsE (aS xs 0)).isSome (k (.ret (.tuple [nilList, .int .i64 (aI xs 1 + (wdAt (aS xs 0) : Int)), .int .i64 (wdErr (aS xs 0))]) [])) (k (.ret (.tuple [encWds (aI xs 1) (wordsOf (aS xs 0)), .int .i64 (aI xs 1), .int .i64 0]) [])))
theorem wordsTold_ok : ∀ xs H k out, wordsTold xs H k = some out → ∃ o, CallOK Tryz.prog 158 xs H o ∧ k o = some out := mkFS_ok fun ys xs e h => by
 obtain ⟨s, n, rfl⟩ : ∃ s n, xs = [.str s, .int .i64 n] := ⟨_, _, e⟩
 replace h : s.length ≤ 1073741824 ∧ 0 ≤ n ∧ n ≤ 1099511627776 := of_decide_eq_true h
 show ∃ o, (∀ k : Out → Ans, cond (wordsE s).isSome _ _ = k o) ∧ _
 cases hb : (wordsE s).isSome with
 | true => exact ⟨_, fun k => rfl, words_bad s n h.1 h.2.1 h.2.2 hb⟩
 | false => exact ⟨_, fun k => rfl, words_good s n h.1 h.2.1 h.2.2 hb⟩
end Go.Mu
namespace Go.Proofs
open Go.Shelf
def Tryz.pRen : Ren := {
 f := fun x => match x with
  | 138 => 369
  | 143 => 90
  | 145 => 147
  | 146 => 348
  | 156 => 16
  | 165 => 21
  | 166 => 22
  | 169 => 23
  | 195 => 373
  | 197 => 188
  | 217 => 166
  | 218 => 374
  | 219 => 148
  | 220 => 207
  | 221 => 362
  | 224 => 209
  | 225 => 208
  | 240 => 32
  | 241 => 33
  | 260 => 241
  | 266 => 218
  | 267 => 210
  | 268 => 368
  | 276 => 42
  | 277 => 43
  | 314 => 250
  | n => n,
 t := fun x => match x with
  | 0 => 0
  | 3 => 3
  | 4 => 4
  | 5 => 5
  | 9 => 9
  | 20 => 20
  | 21 => 21
  | 31 => 34
  | 37 => 50
  | 46 => 49
  | 51 => 325
  | 59 => 236
  | 70 => 51
  | 72 => 53
  | 75 => 56
  | 76 => 57
  | 80 => 59
  | 105 => 269
  | 119 => 358
  | 127 => 78
  | 138 => 360
  | 139 => 361
  | 146 => 326
  | 164 => 100
  | n => n,
 g := fun x => match x with
  | 1 => 0
  | 3 => 1
  | 4 => 2
  | n => n }
theorem Tryz.pRen_156 : Lays.n156 Tryz.prog Tryz.pRen := {
 mixed := by kernel_rfl
 f156 := Tryz.func16.trans (congrArg some (by kernel_rfl))
 f165 := Tryz.func21.trans (congrArg some (by kernel_rfl))
 f166 := Tryz.func22.trans (congrArg some (by kernel_rfl))
 f169 := Tryz.func23.trans (congrArg some (by kernel_rfl))
 f240 := Tryz.func32.trans (congrArg some (by kernel_rfl))
 f241 := Tryz.func33.trans (congrArg some (by kernel_rfl))
 f276 := Tryz.func42.trans (congrArg some (by kernel_rfl))
 f277 := Tryz.func43.trans (congrArg some (by kernel_rfl))
 t0 := Tryz.underlying0
 a0 := Tryz.isAgg0
 z0 := Tryz.sizeOf0
 v0 := Tryz.zeroValue0
 t3 := Tryz.underlying3
 a3 := Tryz.isAgg3
 z3 := Tryz.sizeOf3
 v3 := Tryz.zeroValue3
 t4 := Tryz.underlying4
 a4 := Tryz.isAgg4
 z4 := Tryz.sizeOf4
 v4 := Tryz.zeroValue4
 t9 := Tryz.underlying9
 a9 := Tryz.isAgg9
 z9 := Tryz.sizeOf9
 v9 := Tryz.zeroValue9
 t20 := Tryz.underlying20
 a20 := Tryz.isAgg20
 z20 := Tryz.sizeOf20
 v20 := Tryz.zeroValue20
 t31 := Tryz.underlying34
 a31 := Tryz.isAgg34
 z31 := Tryz.sizeOf34
 v31 := Tryz.zeroValue34
 t37 := Tryz.underlying50
 a37 := Tryz.isAgg50
 z37 := Tryz.sizeOf50
 v37 := Tryz.zeroValue50
 t70 := Tryz.underlying51
 a70 := Tryz.isAgg51
 z70 := Tryz.sizeOf51
 v70 := Tryz.zeroValue51
 t72 := Tryz.underlying53
 a72 := Tryz.isAgg53
 z72 := Tryz.sizeOf53
 v72 := Tryz.zeroValue53
 t75 := Tryz.underlying56
 a75 := Tryz.isAgg56
 z75 := Tryz.sizeOf56
 v75 := Tryz.zeroValue56
 t76 := Tryz.underlying57
 a76 := Tryz.isAgg57
 z76 := Tryz.sizeOf57
 v76 := Tryz.zeroValue57
 t127 := Tryz.underlying78
 a127 := Tryz.isAgg78
 z127 := Tryz.sizeOf78
 v127 := Tryz.zeroValue78
 t164 := Tryz.underlying100
 a164 := Tryz.isAgg100
 z164 := Tryz.sizeOf100
 v164 := Tryz.zeroValue100
}
theorem Tryz.pRen_X : Builder.Extra Tryz.prog Tryz.pRen := {
 sizeBuilder := by kernel_rfl
 liesBuilder := by kernel_rfl
 t5 := Tryz.underlying5
 a5 := Tryz.isAgg5
 z5 := Tryz.sizeOf5
 v5 := Tryz.zeroValue5
 infoByte := by kernel_rfl
 cellsByte := by kernel_rfl
 sizeByte := by kernel_rfl
 neB5 := by decide }
end Go.Proofs
namespace Go.Mu
open Go Go.Proofs Go.RowKit
section
variable {P : Program} {w w' : World} {E : Env} {H : Heap}
theorem Sim.freshV (sim : Sim w E H) (hb : Below w.heap.size w w') {Q : Nat → Prop} (hQ : ∀ b, Q b → w.heap.size ≤ b ∧ b < w'.heap.size) :
 Evo No w E H w' { E with imm := fun x => E.imm x ∨ Q x } H ∧ Sim w' { E with imm := fun x => E.imm x ∨ Q x } H := by
 have old : ∀ {b}, b < w.heap.size → w'.heap[b]? = w.heap[b]? := fun h => hb.block _ h
 have hsz := hb.size
 have ev : Evo No w E H w' { E with imm := fun x => E.imm x ∨ Q x } H := by
  refine ⟨hsz, fun b hb _ _ => old hb, fun b hb => ⟨.inl hb, old (sim.immLt b hb)⟩, fun b hb => ?_, fun k hk => ⟨hk, rfl⟩, fun k sz u hk => ⟨u, hk, Nat.le_refl _, fun _ => ⟨rfl, fun _ => rfl⟩⟩,
   fun k hk => .inr ⟨hk, rfl⟩, Nat.le_refl _, hb.tape, hb.os, hb.output⟩
  rcases hb with hb | hb
  · exact .inl hb
  · exact .inr (hQ _ hb).1
 have hs := ev.sees
 refine ⟨ev, fun b hb => ?_, fun k cs hc => (sim.var k cs hc).mono hs (old (sim.apart k (.inl (var_of_get hc))).2), fun k sz rows u hc => ?_, fun k hk => ⟨?_, ?_⟩, sim.inj, fun j t n hj hl => (sim.note j t n hj hl).same (old (sim.apart _ hl).2), sim.glob.mono hs.imm, fun k kk es h => (sim.map k kk es h).same (old (sim.apart k (.inl (map_isVar h))).2)⟩
 · rcases hb with hb | hb
   · have := sim.immLt b hb; omega
   · exact (hQ _ hb).2
 · obtain ⟨h1, h2, h3, h4⟩ := sim.arr k sz rows u hc
   exact ⟨h1, h2, h3, fun hcap => (h4 hcap).mono hs (old (sim.apart k (.inr ⟨⟨sz, u, arr_of_get hc⟩, hcap⟩)).2)⟩
 · rintro (hb | hb)
   · exact (sim.apart k hk).1 hb
   · have := (sim.apart k hk).2; have := (hQ _ hb).1; simp only at this; omega
 · have := (sim.apart k hk).2; simp only; omega
theorem CallOK.freshV {f : FuncId} {xs : List AVal} {v : AVal} (h : ∀ w E (cs : List Value), Sim w E H → cs.length = xs.length → (∀ j, j < xs.length → Rep w E H (xs.getD j .undef) (cs.getD j undef)) →
 ∃ (Q : World → Nat → Prop) (c : Value), Calls P f cs.toArray w (fun e w' => e = .returned c ∧ Below w.heap.size w w' ∧ (∀ b, Q w' b → w.heap.size ≤ b ∧ b < w'.heap.size) ∧ RepP w' (fun x => E.imm x ∨ Q w' x) v c)) : CallOK P f xs H (.ret v H) := by
 intro w E cs sim hl hr
 obtain ⟨Q, c, h1⟩ := h w E cs sim hl hr
 refine Calls.mono h1 (fun e w' hp => ?_)
 obtain ⟨rfl, hb, hq, h2⟩ := hp
 obtain ⟨ev, sim'⟩ := sim.freshV hb hq
 exact ⟨_, ev, sim', .pure _ _ h2⟩
theorem repP_str {imm : Nat → Prop} {s : Oc} {c : Value} (h : RepP w imm (.str s) c) : ∃ b : ByteArray, c = .string b ∧ b.data.toList = s := by
 cases h with | str b => exact ⟨b, rfl, rfl⟩
def ba (s : Oc) : ByteArray := ⟨⟨s⟩⟩
theorem ba_eq {b : ByteArray} {s : Oc} (h : b.data.toList = s) : b = ba s := by
 subst h
 cases b with | mk d => cases d with | mk l => rfl
end
theorem sJoin_ok (full : Bool) (l : List Oc) (sep : Oc) (h1 : l.length ≤ 140737488355328) (h2 : (Lib.join l sep).length ≤ 140737488355328) : CallOK Tryz.prog 16 [encL full encS [] l, .str sep] [] (.ret (.str (Lib.join l sep)) []) := by
 refine CallOK.freshV (fun w E cs sim hl hr => ?_)
 obtain ⟨x, y, rfl⟩ : ∃ x y, cs = [x, y] := by
  match cs, hl with
  | [x, y], _ => exact ⟨x, y, rfl⟩
 obtain ⟨ad, cap, e1, hle, _, hb⟩ := rep_list (hr 0 (by simp))
 obtain ⟨t, e2, e3⟩ := rep_str (hr 1 (by simp))
 replace e1 : x = .slice ad l.length cap := e1
 replace e2 : y = .string t := e2
 have e4 := ba_eq e3
 subst e1 e2
 refine ⟨fun _ _ => False, .string (ba (Lib.join l sep)), ?_⟩
 have fin : ∀ w' : World, RepP w' (fun x => E.imm x ∨ False) (.str (Lib.join l sep)) (.string (ba (Lib.join l sep))) := fun w' => .str (ba (Lib.join l sep))
 cases hn : l with
 | nil =>
  refine (Any.strings_Join_none Tryz.pRen_156 Tryz.pRen_X ad cap t w).mono fun e w' ⟨he, hw⟩ => ⟨?_, hw ▸ Below.refl _ _, fun b h => h.elim, hn ▸ fin w'⟩
  rw [he]; rfl
 | cons a l' =>
  rw [← hn]
  have hne : l.length ≠ 0 := by rw [hn]; simp
  obtain ⟨blk, off, sz, cs, rfl, himm, hsz, hc1, hc2⟩ := hb hne
  have hsz1 : sz = 1 := (hsz 0 (by omega)).symm
  subst hsz1
  have em : (l.map ba).map (fun b : ByteArray => b.data.toList) = l := by
   rw [List.map_map]
   exact List.map_id' l
  have key := Any.strings_Join Tryz.pRen_156 Tryz.pRen_X blk off cap (l.map ba) t w (fun j x hx => by
   rw [List.getElem?_map] at hx
   cases hj : l[j]? with
   | none => rw [hj] at hx; simp at hx
   | some s =>
    rw [hj] at hx
    simp only [Option.map_some, Option.some.injEq] at hx
    have hjl : j < l.length := (List.getElem?_eq_some_iff.1 hj).1
    have g1 := (hc1 j 0 hjl (by omega)).1
    have g2 := hc2 j 0 hjl (by omega)
    have g3 : (encS (l.getD j [])).getD 0 .undef = .str s := by simp [encS, List.getD_eq_getElem?_getD, hj]
    rw [g3] at g2
    obtain ⟨b, h5, h6⟩ := repP_str g2
    rw [← hx, ← ba_eq h6, ← h5]
    have e5 : off + j * 1 + 0 = off + j := by omega
    rw [e5] at g1
    exact g1) (sim.immLt _ himm) (by rw [List.length_map]; exact h1) (by rw [List.length_map]; exact hle) (by rw [em, e3]; exact h2)
  rw [em, e3, List.length_map] at key
  exact key.mono fun e w' ⟨he, hw⟩ => ⟨he, hw, fun b h => h.elim, fin w'⟩
noncomputable def sJoinTold : FSp := mkF (fun xs H => (fullOf (xs.getD 0 .undef), decL decS (xs.getD 0 .undef), aS xs 1)) (fun x => x.2.1.length ≤ 140737488355328 ∧ (Lib.join x.2.1 x.2.2).length ≤ 140737488355328) (fun x => [encL x.1 encS [] x.2.1, .str x.2.2]) (fun _ => [])
 (fun x k => k (.ret (.str (Lib.join x.2.1 x.2.2)) []))
theorem sJoinTold_ok : ∀ xs H k out, sJoinTold xs H k = some out → ∃ o, CallOK Tryz.prog 16 xs H o ∧ k o = some out := mkF_ok fun x h => ⟨_, fun k => rfl, sJoin_ok _ _ _ h.1 h.2⟩
end Go.Mu
namespace Go.Mu
open Go Go.Proofs
def digsF : Nat → Nat → Oc → Oc
 | 0, _, t => t
 | f + 1, u, t => bif u / 10 == 0 then UInt8.ofNat (48 + u % 10) :: t else digsF f (u / 10) (UInt8.ofNat (48 + u % 10) :: t)
structure PrA where
 n : Int
 at_ : Nat
 u : Nat
 t : Oc
def prRows (m : Nat) (t : Oc) : List (List AVal) := List.replicate m (byteRow 0) ++ t.map byteRow
abbrev prH (at_ : Nat) (t : Oc) : Heap := [.arr 1 (prRows at_ t) 0]
def prIn (H : Heap) (at_ : Nat) : Oc := bytesOf ((rowsO (H.getD 0 (.var []))).drop at_)
def prOut (at_ : Int) (u : Int) (t : Oc) : Oc := digsF (at_.toNat - 1) u.toNat t
noncomputable def prSp : LSp := mkL (fun vs _ H => PrA.mk (aI vs 0) (aI vs 2).toNat (aI vs 3).toNat (prIn H (aI vs 2).toNat)) (fun a => a.at_ + a.t.length = 20 ∧ a.u < 10 ^ (a.at_ - 1) ∧ 1 < a.at_) (fun a => [.int .i64 a.n, .eptr 0 0 0 0, .int .i64 a.at_, .int .u64 a.u]) (fun _ => []) (fun a => prH a.at_ a.t)
 (fun a k => k (.exit 0) [.int .i64 a.n, .eptr 0 0 0 0, .int .i64 (20 - (prOut a.at_ a.u a.t).length : Nat)] [] (prH (20 - (prOut a.at_ a.u a.t).length) (prOut a.at_ a.u a.t)))
noncomputable def prFH : FH := { FH.of [(5, loopSpec 34 [0,3,4,5] [] [0,3,4] [] prSp)] with arrs := [3] }
theorem pr_step (n at_ u : Int) (rows : List (List AVal)) (D : Dfs) (k : Kont) : lturn Tryz.prog Lay.nil prFH 15 5 [0,3,4,5] [] [0,3,4] [] (stL 34 [0,3,4,5] [.int .i64 n, .eptr 0 0 0 0, .int .i64 at_, .int .u64 u] [] [] [.arr 1 rows 0] D) k = (
 let c0 : Bool := !(u == u && false);
 let n1 : Int := IntKind.i64.wrap (at_ - 1);
 let m2 : Nat := n1.toNat;
 let n3 : Int := IntKind.u64.wrap (u.tdiv 10);
 let z0 := [Obj.arr 1 (rows.set m2 ((rows.getD m2 []).set 0 (AVal.int .u8 (IntKind.u8.wrap (IntKind.u64.wrap (48 + u.tmod 10)))))) 0];
  bif c0 then bif decide (0 ≤ n1) && decide (n1 < 20) then bif decide (m2 < rows.length) && true then bif c0 then bif n3 == 0 then k (AExit.exit 0) (stL 34 [0, 3, 4] [AVal.int .i64 n, AVal.eptr 0 0 0 0, AVal.int .i64 n1] [] [] z0 D) else k AExit.normal (stL 34 [0, 3, 4, 5] [AVal.int .i64 n, AVal.eptr 0 0 0 0, AVal.int .i64 n1, AVal.int .u64 n3] [] [] z0 D) else none else none else none else none) := by kernel_rfl
theorem set_rep {α : Type} (x y : α) (l : List α) : ∀ m : Nat, (List.replicate (m + 1) x ++ l).set m y = List.replicate m x ++ y :: l
 | 0 => rfl
 | m + 1 => by
  rw [List.replicate_succ, List.cons_append, List.set_cons_succ, set_rep x y l m]
  rfl
theorem getD_rep {α : Type} (x d : α) (l : List α) (m : Nat) : (List.replicate (m + 1) x ++ l).getD m d = x := by
 rw [List.getD_eq_getElem?_getD, List.getElem?_append_left (by simp), List.getElem?_replicate]
 simp
theorem prRows_len (m : Nat) (t : Oc) : (prRows m t).length = m + t.length := by simp [prRows]
theorem prRows_set (m : Nat) (t : Oc) (c : UInt8) : (prRows (m + 1) t).set m (((prRows (m + 1) t).getD m []).set 0 (.int .u8 c.toNat)) = prRows m (c :: t) := by
 unfold prRows
 rw [getD_rep, set_rep]
 rfl
theorem prRows_drop (m : Nat) (t : Oc) : (prRows m t).drop m = t.map byteRow := by simp [prRows]
theorem dig_val (u : Nat) : IntKind.u8.wrap (IntKind.u64.wrap (48 + (u : Int).tmod 10)) = ((UInt8.ofNat (48 + u % 10)).toNat : Int) := by
 have e : (u : Int).tmod 10 = ((u % 10 : Nat) : Int) := rfl
 have h : u % 10 < 10 := Nat.mod_lt _ (by decide)
 rw [e, wrapU (by omega) (by omega), wrapB (by omega) (by omega), UInt8.toNat_ofNat', Nat.mod_eq_of_lt (show 48 + u % 10 < 2 ^ 8 by omega)]
 omega
theorem pr_runs (n : Int) : ∀ (m u : Nat) (t : Oc), m + 2 + t.length = 20 → u < 10 ^ (m + 1) →
 LoopRuns (lturn Tryz.prog Lay.nil prFH 15 5 [0,3,4,5] [] [0,3,4] []) 34 [0,3,4,5] [] [0,3,4] [] [.int .i64 n, .eptr 0 0 0 0, .int .i64 ((m + 2 : Nat) : Int), .int .u64 u] [] (prH (m + 2) t) (.exit 0)
  [.int .i64 n, .eptr 0 0 0 0, .int .i64 (20 - (digsF (m + 1) u t).length : Nat)] [] (prH (20 - (digsF (m + 1) u t).length) (digsF (m + 1) u t)) := by
 intro m
 induction m with
 | zero =>
  intro u t hl hu
  have key := fun D k => pr_step n ((0 + 2 : Nat) : Int) u (prRows (0 + 2) t) D k
  have e1 : IntKind.i64.wrap (((0 + 2 : Nat) : Int) - 1) = ((0 + 1 : Nat) : Int) := by rw [wrap_of (by omega) (by omega)]; omega
  have e2 : ((u : Int).tdiv 10) = ((u / 10 : Nat) : Int) := rfl
  have h10 : u / 10 = 0 := by omega
  have e3 : IntKind.u64.wrap ((u / 10 : Nat) : Int) = ((u / 10 : Nat) : Int) := wrapU (by omega) (by omega)
  have e4 : (prRows (0 + 2) t).length = 20 := by rw [prRows_len]; omega
  simp only [e1, e2, e3, dig_val, Int.toNat_natCast, e4, prRows_set, h10] at key
  simp (disch := omega) only [dT, cond_true, Bool.and_true, Bool.and_self, Bool.and_false, Bool.not_false] at key
  have e5 : digsF (0 + 1) u t = UInt8.ofNat (48 + u % 10) :: t := by rw [digsF, h10]; rfl
  have e6 : 20 - (UInt8.ofNat (48 + u % 10) :: t).length = 0 + 1 := by rw [List.length_cons]; omega
  rw [e5, e6]
  exact .stop (by simp) key
 | succ m ih =>
  intro u t hl hu
  have key := fun D k => pr_step n ((m + 1 + 2 : Nat) : Int) u (prRows (m + 1 + 2) t) D k
  have hb : 10 ^ (m + 1 + 1) ≤ 10 ^ 19 := Nat.pow_le_pow_right (by decide) (by omega)
  have e1 : IntKind.i64.wrap (((m + 1 + 2 : Nat) : Int) - 1) = ((m + 1 + 1 : Nat) : Int) := by rw [wrap_of (by omega) (by omega)]; omega
  have e2 : ((u : Int).tdiv 10) = ((u / 10 : Nat) : Int) := rfl
  have e3 : IntKind.u64.wrap ((u / 10 : Nat) : Int) = ((u / 10 : Nat) : Int) := wrapU (by omega) (by omega)
  have e4 : (prRows (m + 1 + 2) t).length = 20 := by rw [prRows_len]; omega
  simp only [e1, e2, e3, dig_val, Int.toNat_natCast, e4, prRows_set] at key
  simp (disch := omega) only [dT, cond_true, Bool.and_true, Bool.and_self, Bool.and_false, Bool.not_false] at key
  rw [digsF]
  by_cases h10 : u / 10 = 0
  · simp only [h10] at key ⊢
    have e6 : 20 - (UInt8.ofNat (48 + u % 10) :: t).length = m + 1 + 1 := by rw [List.length_cons]; omega
    show LoopRuns _ _ _ _ _ _ _ _ _ _ [_, _, .int .i64 (20 - (UInt8.ofNat (48 + u % 10) :: t).length : Nat)] _ (prH (20 - (UInt8.ofNat (48 + u % 10) :: t).length) (UInt8.ofNat (48 + u % 10) :: t))
    rw [e6]
    exact .stop (by simp) key
  · have e7 : (((u / 10 : Nat) : Int) == 0) = false := by simp; omega
    have e8 : (u / 10 == 0) = false := by simpa using h10
    simp only [e7, cond_false] at key
    rw [e8]
    have hu2 : u / 10 < 10 ^ (m + 1) := by rw [Nat.pow_succ] at hu; omega
    exact .step key (ih (u / 10) (UInt8.ofNat (48 + u % 10) :: t) (by rw [List.length_cons]; omega) hu2)
theorem prSp_ok : SpOK (lturn Tryz.prog Lay.nil prFH 15 5 [0,3,4,5] [] [0,3,4] []) 34 [0,3,4,5] [] [0,3,4] [] prSp := mkL_ok fun a h => by
 obtain ⟨n, at_, u, t⟩ := a
 obtain ⟨h1, h2, h3⟩ := h
 simp only at h1 h2 h3
 obtain ⟨m, rfl⟩ : ∃ m, at_ = m + 2 := ⟨at_ - 2, by omega⟩
 exact ⟨_, _, _, _, fun k => rfl, pr_runs n m u t h1 h2⟩
noncomputable def layPr : Lay := Lay.nil.addL 15 prFH
theorem layPr_ok : layPr.OK Tryz.prog := Lay.nil_ok.loop1 (id := 5) (by kernel_rfl) (by kernel_rfl) (by kernel_rfl) prSp_ok
theorem pr_fun (n : Int) (k : Out → Ans) (c0 : Bool) (e_c0 : c0 = (decide (n < 0)))
 (n1 : Int) (e_n1 : n1 = (IntKind.u64.wrap (0 - IntKind.u64.wrap n)))
 (m2 : Nat) (e_m2 : m2 = (n1.toNat))
 (n3 : Int) (e_n3 : n3 = ((↑m2 : Int)))
 (l4 : Oc) (e_l4 : l4 = (prOut (↑(Int.toNat 20) : Int) n3
  (prIn
   [Obj.arr 1
    [[AVal.int .u8 0], [AVal.int .u8 0], [AVal.int .u8 0], [AVal.int .u8 0],
      [AVal.int .u8 0], [AVal.int .u8 0], [AVal.int .u8 0], [AVal.int .u8 0],
      [AVal.int .u8 0], [AVal.int .u8 0], [AVal.int .u8 0], [AVal.int .u8 0],
      [AVal.int .u8 0], [AVal.int .u8 0], [AVal.int .u8 0], [AVal.int .u8 0],
      [AVal.int .u8 0], [AVal.int .u8 0], [AVal.int .u8 0], [AVal.int .u8 0]]
    0]
   (Int.toNat 20))))
 (m5 : Nat) (e_m5 : m5 = (20 - l4.length))
 (m6 : Nat) (e_m6 : m6 = ((prRows m5 l4).length))
 (c7 : Bool) (e_c7 : c7 = (decide (20 ≤ m6)))
 (n8 : Int) (e_n8 : n8 = ((↑m5 : Int)))
 (n9 : Int) (e_n9 : n9 = (IntKind.i64.wrap (n8 - 1)))
 (c10 : Bool) (e_c10 : c10 = (decide (0 ≤ n9)))
 (c11 : Bool) (e_c11 : c11 = (decide (n9 ≤ 20)))
 (m12 : Nat) (e_m12 : m12 = (n9.toNat))
 (m13 : Nat) (e_m13 : m13 = ((20 - n9).toNat))
 (m14 : Nat) (e_m14 : m14 = (((prRows m5 l4).set m12 (((prRows m5 l4).getD m12 []).set 0 (AVal.int .u8 45))).length))
 (m15 : Nat) (e_m15 : m15 = (n8.toNat))
 (m16 : Nat) (e_m16 : m16 = ((20 - n8).toNat))
 (n17 : Int) (e_n17 : n17 = ((↑(IntKind.u64.wrap n).toNat : Int)))
 (l18 : Oc) (e_l18 : l18 = (prOut (↑(Int.toNat 20) : Int) n17
  (prIn
   [Obj.arr 1
    [[AVal.int .u8 0], [AVal.int .u8 0], [AVal.int .u8 0], [AVal.int .u8 0],
      [AVal.int .u8 0], [AVal.int .u8 0], [AVal.int .u8 0], [AVal.int .u8 0],
      [AVal.int .u8 0], [AVal.int .u8 0], [AVal.int .u8 0], [AVal.int .u8 0],
      [AVal.int .u8 0], [AVal.int .u8 0], [AVal.int .u8 0], [AVal.int .u8 0],
      [AVal.int .u8 0], [AVal.int .u8 0], [AVal.int .u8 0], [AVal.int .u8 0]]
    0]
   (Int.toNat 20))))
 (m19 : Nat) (e_m19 : m19 = (20 - l18.length))
 (m20 : Nat) (e_m20 : m20 = ((prRows m19 l18).length))
 (c21 : Bool) (e_c21 : c21 = (decide (20 ≤ m20)))
 (n22 : Int) (e_n22 : n22 = ((↑m19 : Int)))
 (n23 : Int) (e_n23 : n23 = (IntKind.i64.wrap (n22 - 1)))
 (c24 : Bool) (e_c24 : c24 = (decide (0 ≤ n23)))
 (c25 : Bool) (e_c25 : c25 = (decide (n23 ≤ 20)))
 (m26 : Nat) (e_m26 : m26 = (n23.toNat))
 (m27 : Nat) (e_m27 : m27 = ((20 - n23).toNat))
 (m28 : Nat) (e_m28 : m28 = (((prRows m19 l18).set m26 (((prRows m19 l18).getD m26 []).set 0 (AVal.int .u8 45))).length))
 (m29 : Nat) (e_m29 : m29 = (n22.toNat))
 (m30 : Nat) (e_m30 : m30 = ((20 - n22).toNat)) : iFun Tryz.prog (layPr.hd Tryz.prog) layPr.fhs 0 15 [.int .i64 n] [] k = (
 bif c0 then
 bif
 tst
 ((Int.toNat 20 + 0 = 20 ∧ m2 < 10 ^ (Int.toNat 20 - 1) ∧ 1 < Int.toNat 20) ∧
 SubTL [AVal.int .i64 n, AVal.eptr 0 0 0 0, AVal.int .i64 20, AVal.int .u64 n1]
 [AVal.int .i64 n, AVal.eptr 0 0 0 0, AVal.int .i64 (↑(Int.toNat 20) : Int),
 AVal.int .u64 n3] ∧
 ([] : List (List AVal)) = [] ∧
 [Obj.arr 1
 [[AVal.int .u8 0], [AVal.int .u8 0], [AVal.int .u8 0], [AVal.int .u8 0],
 [AVal.int .u8 0], [AVal.int .u8 0], [AVal.int .u8 0],
 [AVal.int .u8 0], [AVal.int .u8 0], [AVal.int .u8 0],
 [AVal.int .u8 0], [AVal.int .u8 0], [AVal.int .u8 0],
 [AVal.int .u8 0], [AVal.int .u8 0], [AVal.int .u8 0],
 [AVal.int .u8 0], [AVal.int .u8 0], [AVal.int .u8 0],
 [AVal.int .u8 0]]
 0] =
 prH (Int.toNat 20)
 (prIn
 [Obj.arr 1
 [[AVal.int .u8 0], [AVal.int .u8 0], [AVal.int .u8 0],
 [AVal.int .u8 0], [AVal.int .u8 0], [AVal.int .u8 0],
 [AVal.int .u8 0], [AVal.int .u8 0], [AVal.int .u8 0],
 [AVal.int .u8 0], [AVal.int .u8 0], [AVal.int .u8 0],
 [AVal.int .u8 0], [AVal.int .u8 0], [AVal.int .u8 0],
 [AVal.int .u8 0], [AVal.int .u8 0], [AVal.int .u8 0],
 [AVal.int .u8 0], [AVal.int .u8 0]]
 0]
 (Int.toNat 20))) then
 bif c0 then
 bif c7 && c10 && c11 && true then
 bif decide (m12 < m6) && true && decide (0 < m13) then
 bif decide (20 ≤ m14) && c10 && c11 && true then
 bif
 decide (m12 + m13 ≤ m14) &&
 (List.take m13
 (List.drop m12
 ((prRows m5 l4).set m12 (((prRows m5 l4).getD m12 []).set 0 (AVal.int .u8 45))))).all
 fun (r : List AVal) =>
 match r with
 | [v] => isInt IntKind.u8 v
 | x => false then
 k
 (Out.ret
 (AVal.str
 (List.map (fun (r : List AVal) => UInt8.ofNat (intOf (r.getD 0 AVal.undef)).toNat)
 (List.take m13
 (List.drop m12
 ((prRows m5 l4).set m12 (((prRows m5 l4).getD m12 []).set 0 (AVal.int .u8 45)))))))
 [Obj.arr 1 ((prRows m5 l4).set m12 (((prRows m5 l4).getD m12 []).set 0 (AVal.int .u8 45))) 0])
 else none
 else none
 else none
 else none
 else
 bif c7 && true && decide (n8 ≤ 20) && true then
 bif
 decide (m15 + m16 ≤ m6) &&
 (List.take m16 (List.drop m15 (prRows m5 l4))).all fun (r : List AVal) =>
 match r with
 | [v] => isInt IntKind.u8 v
 | x => false then
 k
 (Out.ret
 (AVal.str
 (List.map (fun (r : List AVal) => UInt8.ofNat (intOf (r.getD 0 AVal.undef)).toNat)
 (List.take m16 (List.drop m15 (prRows m5 l4)))))
 (prH m5 l4))
 else none
 else none
 else none
 else
 bif
 tst
 ((Int.toNat 20 + 0 = 20 ∧ (IntKind.u64.wrap n).toNat < 10 ^ (Int.toNat 20 - 1) ∧ 1 < Int.toNat 20) ∧
 SubTL
 [AVal.int .i64 n, AVal.eptr 0 0 0 0, AVal.int .i64 20,
 AVal.int .u64 (IntKind.u64.wrap n)]
 [AVal.int .i64 n, AVal.eptr 0 0 0 0, AVal.int .i64 (↑(Int.toNat 20) : Int),
 AVal.int .u64 n17] ∧
 ([] : List (List AVal)) = [] ∧
 [Obj.arr 1
 [[AVal.int .u8 0], [AVal.int .u8 0], [AVal.int .u8 0], [AVal.int .u8 0],
 [AVal.int .u8 0], [AVal.int .u8 0], [AVal.int .u8 0],
 [AVal.int .u8 0], [AVal.int .u8 0], [AVal.int .u8 0],
 [AVal.int .u8 0], [AVal.int .u8 0], [AVal.int .u8 0],
 [AVal.int .u8 0], [AVal.int .u8 0], [AVal.int .u8 0],
 [AVal.int .u8 0], [AVal.int .u8 0], [AVal.int .u8 0],
 [AVal.int .u8 0]]
 0] =
 prH (Int.toNat 20)
 (prIn
 [Obj.arr 1
 [[AVal.int .u8 0], [AVal.int .u8 0], [AVal.int .u8 0],
 [AVal.int .u8 0], [AVal.int .u8 0], [AVal.int .u8 0],
 [AVal.int .u8 0], [AVal.int .u8 0], [AVal.int .u8 0],
 [AVal.int .u8 0], [AVal.int .u8 0], [AVal.int .u8 0],
 [AVal.int .u8 0], [AVal.int .u8 0], [AVal.int .u8 0],
 [AVal.int .u8 0], [AVal.int .u8 0], [AVal.int .u8 0],
 [AVal.int .u8 0], [AVal.int .u8 0]]
 0]
 (Int.toNat 20))) then
 bif c0 then
 bif c21 && c24 && c25 && true then
 bif decide (m26 < m20) && true && decide (0 < m27) then
 bif decide (20 ≤ m28) && c24 && c25 && true then
 bif
 decide (m26 + m27 ≤ m28) &&
 (List.take m27
 (List.drop m26
 ((prRows m19 l18).set m26
 (((prRows m19 l18).getD m26 []).set 0 (AVal.int .u8 45))))).all
 fun (r : List AVal) =>
 match r with
 | [v] => isInt IntKind.u8 v
 | x => false then
 k
 (Out.ret
 (AVal.str
 (List.map (fun (r : List AVal) => UInt8.ofNat (intOf (r.getD 0 AVal.undef)).toNat)
 (List.take m27
 (List.drop m26
 ((prRows m19 l18).set m26 (((prRows m19 l18).getD m26 []).set 0 (AVal.int .u8 45)))))))
 [Obj.arr 1 ((prRows m19 l18).set m26 (((prRows m19 l18).getD m26 []).set 0 (AVal.int .u8 45)))
 0])
 else none
 else none
 else none
 else none
 else
 bif c21 && true && decide (n22 ≤ 20) && true then
 bif
 decide (m29 + m30 ≤ m20) &&
 (List.take m30 (List.drop m29 (prRows m19 l18))).all fun (r : List AVal) =>
 match r with
 | [v] => isInt IntKind.u8 v
 | x => false then
 k
 (Out.ret
 (AVal.str
 (List.map (fun (r : List AVal) => UInt8.ofNat (intOf (r.getD 0 AVal.undef)).toNat)
 (List.take m30 (List.drop m29 (prRows m19 l18)))))
 (prH m19 l18))
 else none
 else none
 else none) := by
 subst e_c0 e_n1 e_m2 e_n3 e_l4 e_m5 e_m6 e_c7 e_n8 e_n9 e_c10 e_c11 e_m12 e_m13 e_m14 e_m15 e_m16 e_n17 e_l18 e_m19 e_m20 e_c21 e_n22 e_n23 e_c24 e_c25 e_m26 e_m27 e_m28 e_m29 e_m30
 kernel_rfl
def printM (n : Int) : Oc := bif decide (n < 0) then 45 :: digsF 19 n.natAbs [] else digsF 19 n.natAbs []
theorem digsF_len : ∀ (f u : Nat) (t : Oc), (digsF f u t).length ≤ t.length + f
 | 0, u, t => Nat.le_refl _
 | f + 1, u, t => by
  rw [digsF]
  cases u / 10 == 0 with
  | true => simp
  | false =>
   have := digsF_len f (u / 10) (UInt8.ofNat (48 + u % 10) :: t)
   simp only [cond_false]
   rw [List.length_cons] at this
   omega
theorem all_map (t : Oc) : ((t.map byteRow).all fun (r : List AVal) => match r with | [v] => isInt IntKind.u8 v | x => false) = true := by
 rw [List.all_map, List.all_eq_true]
 intro c hc
 rfl
theorem back_map (t : Oc) : List.map (fun (r : List AVal) => UInt8.ofNat (intOf (r.getD 0 AVal.undef)).toNat) (t.map byteRow) = t := bytesOf_map t
theorem pr_neg (n : Int) (h : -9223372036854775808 ≤ n) (h0 : n < 0) (k : Out → Ans) : ∃ G, ∀ k, iFun Tryz.prog (layPr.hd Tryz.prog) layPr.fhs 0 15 [.int .i64 n] [] k = k (.ret (.str (45 :: digsF 19 n.natAbs [])) G) := by
 have hL := digsF_len 19 n.natAbs []
 obtain ⟨L, e⟩ : ∃ L, L = digsF 19 n.natAbs [] := ⟨_, rfl⟩
 rw [← e] at hL ⊢
 simp only [List.length_nil, Nat.zero_add] at hL
 obtain ⟨m, hm⟩ : ∃ m, 20 - L.length = m + 1 := ⟨19 - L.length, by omega⟩
 have hw : IntKind.u64.wrap (0 - IntKind.u64.wrap n) = (n.natAbs : Int) := by
  simp [IntKind.wrap, IntKind.signed, IntKind.bits]
  omega
 have e1 : IntKind.i64.wrap (((m + 1 : Nat) : Int) - 1) = ((m : Nat) : Int) := by rw [wrap_of (by omega) (by omega)]; omega
 refine ⟨[.arr 1 (prRows m (45 :: L)) 0], fun k => (pr_fun n k true (dT h0).symm _ hw.symm n.natAbs (Int.toNat_natCast _).symm _ rfl L e (m + 1) hm.symm 20 (by rw [prRows_len]; omega) true rfl ((m + 1 : Nat) : Int) rfl (m : Int) e1.symm true (dT (by omega)).symm true (dT (by omega)).symm m (Int.toNat_natCast _).symm (L.length + 1) (by omega) 20 (by rw [List.length_set, prRows_len]; omega) (m + 1) (Int.toNat_natCast _).symm L.length (by omega) _ rfl _ rfl _ rfl _ rfl _ rfl _ rfl _ rfl _ rfl _ rfl _ rfl _ rfl _ rfl _ rfl _ rfl).trans ?_⟩
 · have hu : n.natAbs < 10 ^ (Int.toNat 20 - 1) := by
    show n.natAbs < 10 ^ 19
    omega
   rw [tst_true ⟨⟨rfl, hu, by decide⟩, .refl _, rfl, rfl⟩]
   have e2 : (prRows (m + 1) L).set m (((prRows (m + 1) L).getD m []).set 0 (.int .u8 45)) = prRows m (45 :: L) := prRows_set m L 45
   have e3 : List.take (L.length + 1) ((45 :: L).map byteRow) = (45 :: L).map byteRow := List.take_of_length_le (by simp)
   rw [e2, prRows_drop, e3, all_map, back_map]
   simp (disch := omega) only [dT, cond_true, Bool.and_true, Bool.and_self]
theorem pr_pos (n : Int) (h : n ≤ 9223372036854775807) (h0 : ¬ n < 0) : ∃ G, ∀ k, iFun Tryz.prog (layPr.hd Tryz.prog) layPr.fhs 0 15 [.int .i64 n] [] k = k (.ret (.str (digsF 19 n.natAbs [])) G) := by
 have hL := digsF_len 19 n.natAbs []
 obtain ⟨L, e⟩ : ∃ L, L = digsF 19 n.natAbs [] := ⟨_, rfl⟩
 rw [← e] at hL ⊢
 simp only [List.length_nil, Nat.zero_add] at hL
 have hw : IntKind.u64.wrap n = (n.natAbs : Int) := by rw [wrapU (by omega) (by omega)]; omega
 obtain ⟨m, hm⟩ : ∃ m, 20 - L.length = m := ⟨_, rfl⟩
 have hw2 : ((IntKind.u64.wrap n).toNat : Int) = (n.natAbs : Int) := by rw [hw]; rfl
 refine ⟨prH m L, fun k => (pr_fun n k false (dF h0).symm _ rfl _ rfl _ rfl _ rfl _ rfl _ rfl _ rfl _ rfl _ rfl _ rfl _ rfl _ rfl _ rfl _ rfl _ rfl _ rfl (n.natAbs : Int) hw2.symm L e m hm.symm 20 (by rw [prRows_len]; omega) true rfl (m : Int) rfl _ rfl _ rfl _ rfl _ rfl _ rfl _ rfl m (Int.toNat_natCast _).symm L.length (by omega)).trans ?_⟩
 · have hu : (IntKind.u64.wrap n).toNat < 10 ^ (Int.toNat 20 - 1) := by
    show (IntKind.u64.wrap n).toNat < 10 ^ 19
    rw [hw]; omega
   rw [hw] at hu
   rw [cond_false, hw]
   rw [tst_true ⟨⟨rfl, hu, by decide⟩, .refl _, rfl, rfl⟩]
   have e3 : List.take L.length (L.map byteRow) = L.map byteRow := List.take_of_length_le (by simp)
   rw [prRows_drop, e3, all_map, back_map]
   simp (disch := omega) only [dT, cond_true, cond_false, Bool.and_true, Bool.and_self]
theorem pr_ok (n : Int) (h1 : -9223372036854775808 ≤ n) (h2 : n ≤ 9223372036854775807) : CallOK Tryz.prog 15 [.int .i64 n] [] (.ret (.str (printM n)) []) := by
 unfold printM
 by_cases h0 : n < 0
 · rw [dT h0]
   obtain ⟨G, h⟩ := pr_neg n h1 h0 (fun _ => none)
   exact layPr_ok.callF (G := G) rfl h
 · rw [dF h0]
   obtain ⟨G, h⟩ := pr_pos n h2 h0
   exact layPr_ok.callF (G := G) rfl h
def prTold : FSp := mkFS [.i .i64] (fun xs => decide (-9223372036854775808 ≤ aI xs 0 ∧ aI xs 0 ≤ 9223372036854775807)) (fun xs k => k (.ret (.str (printM (aI xs 0))) []))
theorem prTold_ok : ∀ xs H k out, prTold xs H k = some out → ∃ o, CallOK Tryz.prog 15 xs H o ∧ k o = some out := mkFS_ok fun ys xs e h => by
 obtain ⟨n, rfl⟩ : ∃ n, xs = [.int .i64 n] := ⟨_, e⟩
 replace h : -9223372036854775808 ≤ n ∧ n ≤ 9223372036854775807 := of_decide_eq_true h
 exact ⟨_, fun k => rfl, pr_ok n h.1 h.2⟩
end Go.Mu
namespace Go.Proofs
open Go.Shelf
def Tryz.uRen : Ren := {
 f := fun x => match x with
  | 168 => 231
  | 169 => 23
  | 197 => 188
  | 240 => 32
  | 242 => 246
  | 260 => 241
  | 276 => 42
  | 278 => 292
  | n => n,
 t := fun x => match x with
  | 0 => 0
  | 3 => 3
  | 4 => 4
  | 5 => 5
  | 9 => 9
  | 20 => 20
  | 21 => 21
  | 37 => 50
  | 46 => 49
  | 51 => 325
  | 70 => 51
  | 72 => 53
  | 75 => 56
  | 80 => 59
  | 105 => 269
  | 119 => 358
  | 127 => 78
  | 138 => 360
  | 139 => 361
  | 164 => 100
  | n => n,
 g := fun x => match x with
  | 3 => 1
  | 4 => 2
  | n => n }
theorem Tryz.uRen_168 : Lays.n168 Tryz.prog Tryz.uRen := {
 mixed := by kernel_rfl
 f168 := Tryz.func231.trans (congrArg some (by kernel_rfl))
 f240 := Tryz.func32.trans (congrArg some (by kernel_rfl))
 f242 := Tryz.func246.trans (congrArg some (by kernel_rfl))
 f276 := Tryz.func42.trans (congrArg some (by kernel_rfl))
 f278 := Tryz.func292.trans (congrArg some (by kernel_rfl))
 t0 := Tryz.underlying0
 a0 := Tryz.isAgg0
 z0 := Tryz.sizeOf0
 v0 := Tryz.zeroValue0
 t3 := Tryz.underlying3
 a3 := Tryz.isAgg3
 z3 := Tryz.sizeOf3
 v3 := Tryz.zeroValue3
 t4 := Tryz.underlying4
 a4 := Tryz.isAgg4
 z4 := Tryz.sizeOf4
 v4 := Tryz.zeroValue4
 t5 := Tryz.underlying5
 a5 := Tryz.isAgg5
 z5 := Tryz.sizeOf5
 v5 := Tryz.zeroValue5
 t9 := Tryz.underlying9
 a9 := Tryz.isAgg9
 z9 := Tryz.sizeOf9
 v9 := Tryz.zeroValue9
 t20 := Tryz.underlying20
 a20 := Tryz.isAgg20
 z20 := Tryz.sizeOf20
 v20 := Tryz.zeroValue20
 t21 := Tryz.underlying21
 a21 := Tryz.isAgg21
 z21 := Tryz.sizeOf21
 v21 := Tryz.zeroValue21
 t37 := Tryz.underlying50
 a37 := Tryz.isAgg50
 z37 := Tryz.sizeOf50
 v37 := Tryz.zeroValue50
 t46 := Tryz.underlying49
 a46 := Tryz.isAgg49
 z46 := Tryz.sizeOf49
 v46 := Tryz.zeroValue49
 t51 := Tryz.underlying325
 a51 := Tryz.isAgg325
 z51 := Tryz.sizeOf325
 v51 := Tryz.zeroValue325
 t70 := Tryz.underlying51
 a70 := Tryz.isAgg51
 z70 := Tryz.sizeOf51
 v70 := Tryz.zeroValue51
 t72 := Tryz.underlying53
 a72 := Tryz.isAgg53
 z72 := Tryz.sizeOf53
 v72 := Tryz.zeroValue53
 t75 := Tryz.underlying56
 a75 := Tryz.isAgg56
 z75 := Tryz.sizeOf56
 v75 := Tryz.zeroValue56
 t164 := Tryz.underlying100
 a164 := Tryz.isAgg100
 z164 := Tryz.sizeOf100
 v164 := Tryz.zeroValue100
}
theorem Tryz.uRen_169 : Lays.n169 Tryz.prog Tryz.uRen := {
 mixed := by kernel_rfl
 f169 := Tryz.func23.trans (congrArg some (by kernel_rfl))
 t0 := Tryz.underlying0
 a0 := Tryz.isAgg0
 z0 := Tryz.sizeOf0
 v0 := Tryz.zeroValue0
 t3 := Tryz.underlying3
 a3 := Tryz.isAgg3
 z3 := Tryz.sizeOf3
 v3 := Tryz.zeroValue3
 t9 := Tryz.underlying9
 a9 := Tryz.isAgg9
 z9 := Tryz.sizeOf9
 v9 := Tryz.zeroValue9
 t37 := Tryz.underlying50
 a37 := Tryz.isAgg50
 z37 := Tryz.sizeOf50
 v37 := Tryz.zeroValue50
 t70 := Tryz.underlying51
 a70 := Tryz.isAgg51
 z70 := Tryz.sizeOf51
 v70 := Tryz.zeroValue51
 t72 := Tryz.underlying53
 a72 := Tryz.isAgg53
 z72 := Tryz.sizeOf53
 v72 := Tryz.zeroValue53
 t127 := Tryz.underlying78
 a127 := Tryz.isAgg78
 z127 := Tryz.sizeOf78
 v127 := Tryz.zeroValue78
}
theorem Tryz.uRen_197 : Lays.n197 Tryz.prog Tryz.uRen := {
 mixed := by kernel_rfl
 f197 := Tryz.func188.trans (congrArg some (by kernel_rfl))
 f260 := Tryz.func241.trans (congrArg some (by kernel_rfl))
 t0 := Tryz.underlying0
 a0 := Tryz.isAgg0
 z0 := Tryz.sizeOf0
 v0 := Tryz.zeroValue0
 t3 := Tryz.underlying3
 a3 := Tryz.isAgg3
 z3 := Tryz.sizeOf3
 v3 := Tryz.zeroValue3
 t4 := Tryz.underlying4
 a4 := Tryz.isAgg4
 z4 := Tryz.sizeOf4
 v4 := Tryz.zeroValue4
 t5 := Tryz.underlying5
 a5 := Tryz.isAgg5
 z5 := Tryz.sizeOf5
 v5 := Tryz.zeroValue5
 t9 := Tryz.underlying9
 a9 := Tryz.isAgg9
 z9 := Tryz.sizeOf9
 v9 := Tryz.zeroValue9
 t21 := Tryz.underlying21
 a21 := Tryz.isAgg21
 z21 := Tryz.sizeOf21
 v21 := Tryz.zeroValue21
 t46 := Tryz.underlying49
 a46 := Tryz.isAgg49
 z46 := Tryz.sizeOf49
 v46 := Tryz.zeroValue49
 t105 := Tryz.underlying269
 a105 := Tryz.isAgg269
 z105 := Tryz.sizeOf269
 v105 := Tryz.zeroValue269
 t119 := Tryz.underlying358
 a119 := Tryz.isAgg358
 z119 := Tryz.sizeOf358
 t138 := Tryz.underlying360
 a138 := Tryz.isAgg360
 z138 := Tryz.sizeOf360
 v138 := Tryz.zeroValue360
 t139 := Tryz.underlying361
 a139 := Tryz.isAgg361
 z139 := Tryz.sizeOf361
 v139 := Tryz.zeroValue361
 g3 := by kernel_rfl
 g4 := by kernel_rfl
}
theorem Tryz.uExtra : Builder.Extra Tryz.prog Tryz.uRen where
 sizeBuilder := by kernel_rfl
 liesBuilder := by kernel_rfl
 t5 := Tryz.underlying5
 a5 := Tryz.isAgg5
 z5 := Tryz.sizeOf5
 v5 := Tryz.zeroValue5
 infoByte := by kernel_rfl
 cellsByte := by kernel_rfl
 sizeByte := by kernel_rfl
 neB5 := by decide
end Go.Proofs
namespace Go.Proofs
open Go.RowKit Go.Shelf
attribute [local go_sem] Oper.semAt_some
theorem uB_kept {T e : TypeId} {B b k : Nat} {bs : List Value} {W W' : World} {o : Obj} (h : Lib.IsBuilderF T e B b bs W) (hg : W.grownBy W' (some k)) (hk : k ≠ b) (ho : W.heap[k]? = some o) (hx : ∀ c fz, o ≠ .cells c e fz) : Lib.IsBuilderF T e B b bs W' := by
 have one : ∀ p, Lib.BuilderAtF T e B b p bs W → Lib.BuilderAtF T e B b p bs W' := fun p h => by
  have hlt := h.lt
  obtain ⟨hB, v, hb, hown, hne⟩ := h
  have hv : v.ownBlock ≠ some k := fun hv => by
   obtain ⟨c, fz, hc⟩ := Lib.ownsRowF_kind hown k hv
   rw [ho] at hc
   exact hx c fz (Option.some.inj hc)
  exact ⟨hB, v, (hg.block b hlt (fun e => hk (Option.some.inj e).symm)).trans hb, hown.kept hg (Or.inr hv), hne⟩
 exact h.elim (fun x => .inl (one _ x)) (fun x => .inr (one _ x))
theorem uEach (s : ByteArray) (w : World) : CallsIn Fence.wide 3 Tryz.prog 230 #[.string s] w fun e w' => e = .returned (.func (.func 271) #[] #[.pointer (some ⟨w.heap.size, 0, none⟩)]) ∧ w' = w.alloc (.cells #[.string s] 9) := by
 refine callsIn_of_wp Tryz.func230 rfl trivial ?_ rfl
 simp only [Tryz.ntmps230, List.size_toArray, List.length_cons, List.length_nil, Nat.reduceAdd, Nat.reduceSub, Array.replicate_succ, Array.replicate_zero, List.push_toArray, List.append_toArray, List.nil_append, List.cons_append]
 gi_wp2
 go_ret
 exact ⟨rfl, rfl⟩
theorem decGo_le (t : ByteArray) : (Lib.decodeGo t).1 ≤ 1114111 := by
 unfold Lib.decodeGo
 split
 · show 65533 ≤ 1114111; omega
 · exact Lib.rune_le t 0
def decC (t : ByteArray) : Int := if (Lib.decodeGo t).1 = 65533 ∧ (Lib.decodeGo t).2 < 2 then -1 else (Lib.decodeGo t).1
def DecAt (W : World) (t : ByteArray) : Prop := Calls Tryz.prog 188 #[.string t] W fun e W' => e = .returned (.tuple #[.int .i32 (Lib.decodeGo t).1, .int .i64 (Lib.decodeGo t).2]) ∧ Below W.heap.size W W'
theorem uDecode (t : ByteArray) (W : World) (hd : DecAt W t) : CallsIn Fence.wide 2 Tryz.prog 272 #[.string t] W fun e W' => e = .returned (.tuple #[.int .i64 (decC t), .int .i64 (Lib.decodeGo t).2]) ∧ Below W.heap.size W W' := by
 refine callsIn_of_wp Tryz.func272 rfl trivial ?_ rfl
 simp only [Tryz.ntmps272, List.size_toArray, List.length_cons, List.length_nil, Nat.reduceAdd, Nat.reduceSub, Array.replicate_succ, Array.replicate_zero, List.push_toArray, List.append_toArray, List.nil_append, List.cons_append]
 unfold DecAt at hd
 generalize hx : ((Lib.decodeGo t).1 : Int) = x at hd
 generalize hy : ((Lib.decodeGo t).2 : Int) = y at hd ⊢
 have hC : decC t = if x = 65533 ∧ y < 2 then -1 else x := by unfold decC; rw [← hx, ← hy]; congr 1; simp only [eq_iff_iff]; omega
 rw [hC]
 by_cases h1 : x = 65533
 · by_cases h2 : y < 2
   · rw [if_pos ⟨h1, h2⟩]
     subst h1
     gi_wp2_with (refine ⟨trivial, ?_⟩; gi_at_call 188; refine (callsIn_wide.2 hd).mono ?_; rintro e W1 ⟨rfl, hb⟩)
     gi_wp2
     go_ret2
     exact ⟨rfl, hb⟩
   · rw [if_neg (fun h => h2 h.2)]
     subst h1
     gi_wp2_with (refine ⟨trivial, ?_⟩; gi_at_call 188; refine (callsIn_wide.2 hd).mono ?_; rintro e W1 ⟨rfl, hb⟩)
     gi_wp2
     go_ret2
     exact ⟨rfl, hb⟩
 · rw [if_neg (fun h => h1 h.1)]
   gi_wp2_with (refine ⟨trivial, ?_⟩; gi_at_call 188; refine (callsIn_wide.2 hd).mono ?_; rintro e W1 ⟨rfl, hb⟩)
   gi_wp2
   go_ret2
   have hle := decGo_le t
   have hw : wrap64 x = x := by simp [wrap64]; omega
   exact ⟨by simp [hw], hb⟩
def repC (t : ByteArray) : Int := if (Lib.decodeGo t).1 = 0 then 65533 else (Lib.decodeGo t).1
def repF : Nat → ByteArray → Oc
 | 0, _ => []
 | m + 1, t => if t.size = 0 then [] else Lib.encodeRune (repC t) ++ repF m (t.extract (Lib.decodeGo t).2 t.size)
def chF : Nat → ByteArray → List Int
 | 0, _ => []
 | m + 1, t => if t.size = 0 then [] else repC t :: chF m (t.extract (Lib.decodeGo t).2 t.size)
theorem repF_ch : ∀ m t, repF m t = (chF m t).flatMap Lib.encodeRune
 | 0, _ => rfl
 | m + 1, t => by
  rw [repF, chF]
  split
  · rfl
  · rw [List.flatMap_cons, repF_ch m]
theorem enc_len (l : List Int) : (l.flatMap Lib.encodeRune).length ≤ 4 * l.length := by
 induction l with
 | nil => simp
 | cons c l ih =>
  have hcl := (Lib.runeCells_le c).2
  rw [Lib.runeCells_length] at hcl
  rw [List.flatMap_cons, List.length_append, List.length_cons]
  omega
def strSz (W : World) (B : Nat) : Nat := match W.cell? ⟨B, 0, none⟩ with
 | some (.string t) => t.size
 | _ => 0
abbrev strO (t : ByteArray) : Obj := .cells #[.string t] 9 (0, 0)
set_option maxHeartbeats 1000000 in
theorem uEach1 (l Bs N : Nat) (J : List Int → World → Prop) (good : ByteArray → Prop) (hgood : ∀ t, good t → t.size ≠ 0 → good (t.extract (Lib.decodeGo t).2 t.size))
 (hdec : ∀ t W acc, good t → t.size ≠ 0 → J acc W → DecAt W t) (hJd : ∀ acc W W', J acc W → Below W.heap.size W W' → J acc W')
 (hJs : ∀ acc W t t', J acc W → W.heap[Bs]? = some (strO t) → J acc (W.setCell ⟨Bs, 0, none⟩ (.string t')))
 (hY : ∀ acc W c t, J acc W → W.heap[Bs]? = some (strO t) → acc.length ≤ N → 0 < c → c ≤ 1114111 → YieldAt Fence.wide 2 Tryz.prog l #[.int .i64 c] W fun e W' => e = .returned (.bool true) ∧ J (acc ++ [c]) W' ∧ W'.heap[Bs]? = some (strO t))
 (s : ByteArray) (W : World) (hBs : W.heap[Bs]? = some (strO s)) (hg : good s) (h0 : J [] W) (hs : s.size ≤ N) :
 CallsIn Fence.wide 3 Tryz.prog 271 #[.func (.yield l) #[] #[], .pointer (some ⟨Bs, 0, none⟩)] W fun e W' => (∃ v, e = .returned v) ∧ J (chF s.size s) W' := by
 refine callsIn_of_wp Tryz.func271 rfl trivial ?_ rfl
 simp only [Tryz.ntmps271, List.size_toArray, List.length_cons, List.length_nil, Nat.reduceAdd, Nat.reduceSub, Array.replicate_succ, Array.replicate_zero, List.push_toArray, List.append_toArray, List.nil_append, List.cons_append]
 gi_wp2
 gi_loopw [] (fun wr => ∃ (acc : List Int) (rest : ByteArray) (fuel : Nat), wr.heap[Bs]? = some (strO rest) ∧ J acc wr ∧ good rest ∧ acc ++ chF fuel rest = chF s.size s ∧ rest.size ≤ fuel ∧ acc.length + rest.size ≤ s.size)
  (fun wr => strSz wr Bs)
 case atStart =>
  exact ⟨[], s, s.size, hBs, h0, hg, rfl, Nat.le_refl _, by simp⟩
 case round =>
  obtain ⟨acc, rest, fuel, hb, hJ, hgr, hacc, hfu, hlen⟩ := hrel
  have hcell : wr.cell? ⟨Bs, 0, none⟩ = some (.string rest) := by simp [World.cell?, hb]
  have hfr : wr.frozen? ⟨Bs, 0, none⟩ = false := by simp [World.frozen?, hb]
  by_cases hz : rest.size = 0
  · obtain rfl : rest = ⟨#[]⟩ := ByteArray.ext (Array.eq_empty_of_size_eq_zero hz)
    have hrr : acc = chF s.size s := by
     rw [← hacc]
     cases fuel with
     | zero => rw [chF, List.append_nil]
     | succ m => rw [chF, if_pos hz, List.append_nil]
    gi_wp2
    go_end0
    exact ⟨⟨_, rfl⟩, by rw [← hrr]; exact hJ⟩
  · have hemp : rest.toList.isEmpty = false := by
     rw [Go.ByteArray.toList_eq]
     cases hr : rest.data.toList with
     | cons c t => rfl
     | nil =>
      exfalso; apply hz
      show rest.data.size = 0
      rw [← Array.length_toList, hr]; rfl
    have hpos : 0 < rest.size := Nat.pos_of_ne_zero hz
    have hdG : Lib.decodeGo rest = Utf8.decode rest 0 := by unfold Lib.decodeGo; rw [if_neg hz]
    have hw1 : 1 ≤ (Utf8.decode rest 0).2 := Lib.width_pos rest 0
    have hw2 : (Utf8.decode rest 0).2 ≤ rest.size := Lib.width_le rest hpos
    have hr1 := decGo_le rest
    obtain ⟨f, rfl⟩ : ∃ f, fuel = f + 1 := ⟨fuel - 1, by omega⟩
    have hsz : (rest.extract (Utf8.decode rest 0).2 rest.size).size = rest.size - (Utf8.decode rest 0).2 := by simp
    have hg2 := hgood rest hgr hz
    rw [chF, if_neg hz] at hacc
    rw [hdG] at hacc hg2
    have h1 : 1 ≤ (3 : Nat) - 1 := by omega
    have hblt : Bs < wr.heap.size := (Array.getElem?_eq_some_iff.1 hb).1
    have hmu : strSz wr Bs = rest.size := by unfold strSz; rw [hcell]
    by_cases hc : decC rest ≤ 0
    · have hC : repC rest = 65533 := by
       unfold decC at hc; unfold repC
       split at hc
       · rename_i h; rw [h.1]; rfl
       · rw [if_pos (by omega)]
      rw [hC] at hacc
      gi_wp2_with (refine ⟨trivial, ?_⟩; gi_at_call 272; refine (uDecode rest wr (hdec rest wr acc hgr hz hJ)).mono ?_; rintro e W2 ⟨rfl, hb2⟩; obtain ⟨fn, tmps, assign, body, hy, hR⟩ := hY acc W2 65533 rest (hJd _ _ _ hJ hb2) ((hb2.block Bs hblt).trans hb) (by omega) (by omega) (by omega))
      refine hR.mono ?_
      rintro e W3 ⟨rfl, hJ3, hb3⟩
      have hcell3 : W3.cell? ⟨Bs, 0, none⟩ = some (.string rest) := by simp [World.cell?, hb3]
      have hfr3 : W3.frozen? ⟨Bs, 0, none⟩ = false := by simp [World.frozen?, hb3]
      have hnew : ∀ t', (W3.setCell ⟨Bs, 0, none⟩ (.string t')).heap[Bs]? = some (strO t') := fun t' => by simp [World.setCell, Array.getElem?_modify, hb3]
      have hcn : ∀ t', strSz (W3.setCell ⟨Bs, 0, none⟩ (.string t')) Bs = t'.size := fun t' => by unfold strSz World.cell?; rw [hnew]; rfl
      gi_wp2
      refine ⟨⟨acc ++ [65533], _, f, hnew _, hJs _ _ _ _ hJ3 hb3, hg2, by rw [List.append_assoc]; exact hacc, by omega, by rw [List.length_append, List.length_singleton]; omega⟩, ?_⟩
      rw [hcn, hmu]
      omega
    · have hC : repC rest = decC rest := by
       unfold decC at hc ⊢; unfold repC
       split at hc
       · omega
       · rename_i h; rw [if_neg h, if_neg (by omega)]
      have hC2 : decC rest ≤ 1114111 := by rw [← hC]; unfold repC; split <;> omega
      rw [hC] at hacc
      gi_wp2_with (refine ⟨trivial, ?_⟩; gi_at_call 272; refine (uDecode rest wr (hdec rest wr acc hgr hz hJ)).mono ?_; rintro e W2 ⟨rfl, hb2⟩; obtain ⟨fn, tmps, assign, body, hy, hR⟩ := hY acc W2 (decC rest) rest (hJd _ _ _ hJ hb2) ((hb2.block Bs hblt).trans hb) (by omega) (by omega) (by omega))
      refine hR.mono ?_
      rintro e W3 ⟨rfl, hJ3, hb3⟩
      have hcell3 : W3.cell? ⟨Bs, 0, none⟩ = some (.string rest) := by simp [World.cell?, hb3]
      have hfr3 : W3.frozen? ⟨Bs, 0, none⟩ = false := by simp [World.frozen?, hb3]
      have hnew : ∀ t', (W3.setCell ⟨Bs, 0, none⟩ (.string t')).heap[Bs]? = some (strO t') := fun t' => by simp [World.setCell, Array.getElem?_modify, hb3]
      have hcn : ∀ t', strSz (W3.setCell ⟨Bs, 0, none⟩ (.string t')) Bs = t'.size := fun t' => by unfold strSz World.cell?; rw [hnew]; rfl
      gi_wp2
      refine ⟨⟨acc ++ [decC rest], _, f, hnew _, hJs _ _ _ _ hJ3 hb3, hg2, by rw [List.append_assoc]; exact hacc, by omega, by rw [List.length_append, List.length_singleton]; omega⟩, ?_⟩
      rw [hcn, hmu]
      omega
theorem wpIn_eachU {g : Operand} {ps : Array Tmp} {assign body : Code} {Q : Exit → Act → World → Prop} {a : Act} {w : World} (Bs : Nat) (hg : a.eval g = .func (.func 271) #[] #[.pointer (some ⟨Bs, 0, none⟩)]) (hps : ps.size = 1)
 (good : ByteArray → Prop) (hgood : ∀ t, good t → t.size ≠ 0 → good (t.extract (Lib.decodeGo t).2 t.size)) (s : ByteArray) (hgs : good s) (hBs : w.heap[Bs]? = some (strO s))
 (I : List Int → World → Prop) (hdec : ∀ t W acc, good t → t.size ≠ 0 → I acc W → DecAt W t) (hId : ∀ acc A B, I acc A → Below A.heap.size A B → I acc B)
 (hIs : ∀ acc A t t', I acc A → A.heap[Bs]? = some (strO t) → I acc (A.setCell ⟨Bs, 0, none⟩ (.string t')))
 (hIp : ∀ acc A l r r', I acc A → w.heap.size ≤ l → A.heap[l]? = some (.loop r) → I acc (A.putObj l (.loop r'))) (h0 : I [] w) (a₁ : Int → Act)
 (hassign : ∀ (l : Nat) (c : Int) (W : World) (K : Act → World → Prop), K (a₁ c) W → assign.wpIn (Fence.wide.inRound l) 2 Tryz.prog (Exit.then K (fun _ _ _ => False)) { tmps := (ps.zip #[Value.int .i64 c]).foldl (fun t (p, v) => t.setIfInBounds p v) a.tmps, defers := [] } W)
 (hbody : ∀ (l : Nat) (acc : List Int) (c : Int) (W : World), I acc W → acc.length ≤ s.size → 0 < c → c ≤ 1114111 → body.wpIn (Fence.wide.inRound l) 2 Tryz.prog
  (fun e _ W' => e = .normal ∧ I (acc ++ [c]) W' ∧ (∀ t, W.heap[Bs]? = some (strO t) → W'.heap[Bs]? = some (strO t)) ∧ ∀ k o, w.heap.size ≤ k → W.heap[k]? = some o → o.isCells = false → W'.heap[k]? = some o) (a₁ c) W)
 (hdone : ∀ (D : Nat) (W : World), w.heap.size ≤ D → I (chF s.size s) W → W.heap[D]? = some (.deferred (some [])) → Q .normal { a with defers := { target := .collected D, args := #[] } :: a.defers } W) :
 (Code.rangeFunc g ps assign body).wpIn Fence.wide 4 Tryz.prog Q a w := by
 refine wpIn_rangeFunc ?_
 intro fn hfn
 have hBlt : Bs < w.heap.size := (Array.getElem?_eq_some_iff.1 hBs).1
 have hro : Fence.wide.round = none := rfl
 rw [hro]
 obtain ⟨rec, hrec⟩ : ∃ rec : LoopState → Option Code → Loop, rec = fun st pe => { state := st, pending := pe, fn, tmps := a.tmps, params := ps, assign, body, defers := w.heap.size } := ⟨_, rfl⟩
 obtain ⟨W1, hW1⟩ : ∃ W1, (w.alloc (.deferred (some []))).alloc (.loop (rec .ready none)) = W1 := ⟨_, rfl⟩
 have hL1 : W1.heap[w.heap.size + 1]? = some (.loop (rec .ready none)) := by
  rw [← hW1]; have := World.alloc_heap_new (w.alloc (.deferred (some []))) (.loop (rec .ready none)); rwa [World.size_alloc] at this
 have hK1 : W1.heap[w.heap.size]? = some (.deferred (some [])) := by
  rw [← hW1]; exact (Below.heap_alloc _ _ _ (by simp)).trans (World.alloc_heap_new w _)
 have hb1 : Below w.heap.size w W1 := by
  rw [← hW1]; exact ((Below.refl _ w).alloc (Nat.le_refl _) _).alloc (by simp) _
 have hI1 : I [] W1 := hId _ _ _ h0 hb1
 have hBs1 : W1.heap[Bs]? = some (strO s) := (hb1.block Bs hBlt).trans hBs
 have eg := enters_of (P := Tryz.prog) Tryz.func271 (by kernel_rfl) rfl
 refine ⟨w.heap.size + 1, [{ target := .collected w.heap.size, args := #[] }], W1, { target := .fn (.func 271) #[.pointer (some ⟨Bs, 0, none⟩)], args := #[.func (.yield (w.heap.size + 1)) #[] #[]] }, W1, 271,
  #[.func (.yield (w.heap.size + 1)) #[] #[], .pointer (some ⟨Bs, 0, none⟩)], W1, ?_, ?_, ?_, ?_, fun _ => by omega, ?_⟩
 · rw [← hW1, hrec]; exact run_enterLoop_outer _ _ _ _ _
 · simp only [resolve, hg]
   simp [go_sem]
 · intro f' hf'; trivial
 · simp [invoke, go_sem, eg]
 · refine (uEach1 (w.heap.size + 1) Bs s.size (fun acc W => I acc W ∧ W.heap[w.heap.size + 1]? = some (.loop (rec .ready none)) ∧ W.heap[w.heap.size]? = some (.deferred (some []))) good hgood (fun t W acc hgt h0 hJ => hdec t W acc hgt h0 hJ.1)
    (fun acc A B hJ hb => ⟨hId _ _ _ hJ.1 hb, (hb.block _ (Array.getElem?_eq_some_iff.1 hJ.2.1).1).trans hJ.2.1, (hb.block _ (Array.getElem?_eq_some_iff.1 hJ.2.2).1).trans hJ.2.2⟩)
    (fun acc A t t' hJ hA => ⟨hIs _ _ _ _ hJ.1 hA, (Below.heap_setCell _ _ _ _ (by show w.heap.size + 1 ≠ Bs; omega)).trans hJ.2.1, (Below.heap_setCell _ _ _ _ (by show w.heap.size ≠ Bs; omega)).trans hJ.2.2⟩)
    ?_ s W1 hBs1 hgs ⟨hI1, hL1, hK1⟩ (Nat.le_refl _)).mono ?_
   · rintro acc W c t ⟨hi, hl, hk⟩ hbt hlen hc0 hc1
     have hlt : w.heap.size + 1 < W.heap.size := (Array.getElem?_eq_some_iff.1 hl).1
     have hy := run_yield (P := Tryz.prog) (args := #[Value.int .i64 c]) hl (by rw [hrec]; exact hps.symm)
     rw [hrec] at hy
     refine ⟨fn, _, assign, body, hy, roundIn_of_wpIn trivial (hassign _ c W _ ⟨_, run_beginRound hl (by rw [hrec]), ?_⟩)⟩
     have hl2 : (W.putObj (w.heap.size + 1) (.loop { rec .ready none with state := .busy })).heap[w.heap.size + 1]? = some (.loop { rec .ready none with state := .busy }) := World.putObj_heap_same hlt
     have hk2 : (W.putObj (w.heap.size + 1) (.loop { rec .ready none with state := .busy })).heap[w.heap.size]? = some (.deferred (some [])) := (World.putObj_heap_other (by omega)).trans hk
     have hb2 : (W.putObj (w.heap.size + 1) (.loop { rec .ready none with state := .busy })).heap[Bs]? = some (strO t) := (World.putObj_heap_other (by omega)).trans hbt
     refine wpIn_mono (hbody _ acc c _ (hIp _ _ _ _ _ hi (by omega) hl) hlen hc0 hc1) ?_
     rintro e a3 W3 ⟨rfl, hi3, hb3, hoth⟩
     have hl3 := hoth _ _ (by omega) hl2 rfl
     have hk3 := hoth _ _ (Nat.le_refl _) hk2 rfl
     have hr := run_endRound (P := Tryz.prog) none hl3
     refine ⟨_, _, hr, rfl, ⟨hIp _ _ _ _ _ hi3 (by omega) hl3, ?_, (World.putObj_heap_other (by omega)).trans hk3⟩, (World.putObj_heap_other (by omega)).trans (hb3 t hb2)⟩
     rw [World.putObj_heap_same (Array.getElem?_eq_some_iff.1 hl3).1, hrec]
     rfl
   · rintro e W2 ⟨⟨v, rfl⟩, hi, hl, hk⟩
     refine ⟨none, _, run_endLoop (P := Tryz.prog) hl (by rw [hrec]; simp) |>.trans (by rw [hrec]), hdone _ _ (Nat.le_refl _) (hIp _ _ _ _ _ hi (by omega) hl) ((World.putObj_heap_other (by omega)).trans hk)⟩
set_option maxHeartbeats 2000000 in
theorem uRepair (good : ByteArray → Prop) (hgood : ∀ t, good t → t.size ≠ 0 → good (t.extract (Lib.decodeGo t).2 t.size)) (s : ByteArray) (w : World) (hg : good s) (hs : s.size ≤ 17592186044416)
 (hdec : ∀ t W, good t → t.size ≠ 0 → Below w.heap.size w W → DecAt W t) :
 Calls Tryz.prog 176 #[.string s] w fun e w' => e = .returned (.string ⟨(repF s.size s).toArray⟩) ∧ Below w.heap.size w w' := by
 rw [repF_ch]
 refine (callsIn_wide (n := 4)).1 ?_
 refine callsIn_of_wp_marks Tryz.func176 rfl trivial ?_ rfl
 simp only [Tryz.ntmps176, List.size_toArray, List.length_cons, List.length_nil, Nat.reduceAdd, Nat.reduceSub, Array.replicate_succ, Array.replicate_zero, List.push_toArray, List.append_toArray, List.nil_append, List.cons_append]
 gi_wp2_with (refine ⟨trivial, ?_⟩; gi_at_call 230; refine (uEach s _).mono ?_; rintro e w' ⟨rfl, rfl⟩)
 obtain ⟨w0, hw0⟩ : ∃ w0, (w.alloc (Obj.cells #[Value.pointer none, Value.slice none 0 0] 53)).alloc (Obj.cells #[Value.string s] 9) = w0 := ⟨_, rfl⟩
 rw [hw0]
 have hsz0 : w0.heap.size = w.heap.size + 2 := by rw [← hw0]; simp
 have hBs0 : w0.heap[w.heap.size + 1]? = some (strO s) := by
  rw [← hw0]
  have := World.alloc_heap_new (w.alloc (Obj.cells #[Value.pointer none, Value.slice none 0 0] 53)) (strO s)
  rwa [World.size_alloc] at this
 have hb0 : Below w.heap.size w w0 := by rw [← hw0]; exact ((Below.refl _ w).alloc (Nat.le_refl _) _).alloc (by simp) _
 have hI0 : Lib.IsBuilderF 53 5 w.heap.size w.heap.size (Lib.byteCells []) w0 := by
  rw [← hw0]
  exact (Lib.IsBuilderF.of (Lib.fresh_isBuilder 53 5 w)).alloc _
 refine wpIn_eachU (w.heap.size + 1) rfl rfl good hgood s hg hBs0 (fun acc W => Lib.IsBuilderF 53 5 w.heap.size w.heap.size (Lib.byteCells (acc.flatMap Lib.encodeRune)) W ∧ Below w.heap.size w W) (fun t W acc hgt h0 hJ => hdec t W hgt h0 hJ.2)
  (fun acc A B hJ hb => ⟨hJ.1.below hb, hJ.2.trans (hb.mono hJ.2.size)⟩)
  (fun acc A t t' hJ hA => ⟨uB_kept hJ.1 (k := w.heap.size + 1) ⟨rfl, rfl, rfl, by simp [World.setCell], fun k _ hk => Below.heap_setCell _ _ _ _ (fun e => hk (by simp [e]))⟩ (by omega) hA (fun c fz h => by cases h), hJ.2.setCell (p := ⟨w.heap.size + 1, 0, none⟩) (by show w.heap.size ≤ w.heap.size + 1; omega) _⟩)
  (fun acc A l r r' hJ hl hA => ⟨uB_kept hJ.1 (grownBy_putObj' A l _) (by omega) hA (fun c fz h => by cases h), hJ.2.grown (grownBy_putObj' A l _) hJ.2.size (fun k e => by cases e; omega)⟩)
  ⟨hI0, hb0⟩ (fun c => { tmps := #[.string s, undef, .string ⟨#[]⟩, .pointer (some ⟨w.heap.size, 0, none⟩), .int .i64 c, .string s, .func (.func 271) #[] #[.pointer (some ⟨w.heap.size + 1, 0, none⟩)], .int .i64 c, undef, undef, undef, undef], defers := [] }) ?assign ?body ?done
 case assign =>
  intro l c W K hK
  gi_wp2
  exact hK
 case body =>
  rintro l acc c W ⟨hi, hb⟩ hlen hc0 hc1
  have hsz : w.heap.size ≤ W.heap.size := hb.size
  have hd : 1 ≤ (2 : Nat) - 1 := by omega
  gi_wp2_with (refine ⟨trivial, ?_⟩; gi_at_call 231; refine (CallsIn.inRound l (callsIn_wide.2 (Any.Builder_WriteRune_k Tryz.uRen_168 Tryz.uExtra w.heap.size w.heap.size _ c (by omega) (by omega) W hi (by rw [Lib.byteCells_length]; have := enc_len acc; omega) hsz))).mono ?_; rintro e W1 ⟨rfl, h1, b1, k1⟩)
  refine ⟨⟨by rw [Lib.byteCells_append (acc.flatMap Lib.encodeRune), Lib.byteCells_encodeRune]; exact .inr h1, hb.trans b1⟩, fun t ht => k1 _ _ ht (by simp) (fun c fz h => by cases h), fun k o hk ho hc => k1 _ _ ho (by simp; omega) (fun c fz h => by subst h; cases hc)⟩
 case done =>
  rintro D W hD ⟨hi, hb⟩ hK
  gi_wp2_with (refine ⟨trivial, ?_⟩; gi_at_call 23; refine (callsIn_wide.2 (Any.Builder_String_any_k Tryz.uRen_169 Tryz.uExtra w.heap.size w.heap.size _ W hi hb.size)).mono ?_; rintro e W1 ⟨rfl, _, b1, k1⟩)
  have hK1 := k1 D _ hK (by simp; omega) (fun c fz h => by cases h)
  refine ⟨by simp, .inl ⟨_, _, rfl, run_takeDeferred hK1, ?_⟩⟩
  refine ⟨_, results_tmp rfl _ _ _, rfl, ?_⟩
  exact (hb.trans b1).grown (grownBy_putObj' W1 D _) (hb.trans b1).size (fun k e => by cases e; omega)
def asciiB (t : ByteArray) : Prop := ∀ b ∈ t.data.toList, b.toNat < 128
theorem dec_cons (c : UInt8) (l : Oc) (h : c.toNat < 128) : Lib.decodeGo ⟨(c :: l).toArray⟩ = (c.toNat, 1) := by
 have hsz : (⟨(c :: l).toArray⟩ : ByteArray).size = l.length + 1 := by simp [ByteArray.size]
 have hp : 0 < (⟨(c :: l).toArray⟩ : ByteArray).size := by omega
 have hx : (⟨(c :: l).toArray⟩ : ByteArray)[0]'hp = c := rfl
 unfold Lib.decodeGo
 rw [if_neg (by omega), decode_ascii _ 0 hp (by rw [hx]; exact h), hx]
theorem ext_cons (c : UInt8) (l : Oc) : (⟨(c :: l).toArray⟩ : ByteArray).extract 1 (⟨(c :: l).toArray⟩ : ByteArray).size = ⟨l.toArray⟩ := by
 apply ByteArray.ext
 rw [ByteArray.data_extract]
 apply Array.ext'
 simp [ByteArray.size]
theorem uB_list (t : ByteArray) : ∃ l : Oc, t = ⟨l.toArray⟩ ∧ l = t.data.toList := ⟨t.data.toList, by cases t; rfl, rfl⟩
theorem ascii_step : ∀ t, asciiB t → t.size ≠ 0 → asciiB (t.extract (Lib.decodeGo t).2 t.size) := fun t h hz => by
 obtain ⟨l, rfl, _⟩ := uB_list t
 cases l with
 | nil => exact absurd rfl hz
 | cons c l =>
  have hc : c.toNat < 128 := h c (by simp)
  rw [dec_cons c l hc, ext_cons]
  exact fun b hb => h b (by simp at hb ⊢; exact .inr hb)
theorem ascii_dec (t : ByteArray) (W : World) (h : asciiB t) (hz : t.size ≠ 0) : DecAt W t := by
 obtain ⟨l, rfl, _⟩ := uB_list t
 cases l with
 | nil => exact absurd rfl hz
 | cons c l =>
  have hc : c.toNat < 128 := h c (by simp)
  unfold DecAt
  rw [dec_cons c l hc]
  exact (Any.utf8_DecodeRuneInString_ascii Tryz.uRen_197 ⟨(c :: l).toArray⟩ c W rfl hc).mono fun e w' ⟨he, hw⟩ => ⟨he, by rw [hw]; exact Below.refl _ _⟩
theorem repF_ascii : ∀ (l : Oc) (m : Nat), l.length ≤ m → (∀ c ∈ l, 1 ≤ c.toNat ∧ c.toNat < 128) → repF m ⟨l.toArray⟩ = l
 | [], m, _, _ => by
  cases m with
  | zero => rfl
  | succ m => rw [repF, if_pos (by rfl)]
 | c :: l, m, hm, h => by
  obtain ⟨m, rfl⟩ : ∃ q, m = q + 1 := ⟨m - 1, by rw [List.length_cons] at hm; omega⟩
  obtain ⟨h1, h2⟩ := h c (by simp)
  have hsz : (⟨(c :: l).toArray⟩ : ByteArray).size = l.length + 1 := by simp [ByteArray.size]
  have ih := repF_ascii l m (by rw [List.length_cons] at hm; omega) (fun d hd => h d (by simp [hd]))
  rw [repF, if_neg (by omega), dec_cons c l h2, ext_cons, ih]
  have hC : repC ⟨(c :: l).toArray⟩ = (c.toNat : Int) := by unfold repC; rw [dec_cons c l h2, if_neg (by show c.toNat ≠ 0; omega)]
  rw [hC]
  unfold Lib.encodeRune
  rw [Lib.encodeRuneZ_one (by omega) (by omega)]
  show [((c.toNat : Int)).toNat.toUInt8] ++ l = c :: l
  rw [Int.toNat_natCast]
  show [UInt8.ofNat c.toNat] ++ l = _
  rw [UInt8.ofNat_toNat]; rfl
theorem uRepairA (s : Oc) (w : World) (h : ∀ c ∈ s, 1 ≤ c.toNat ∧ c.toNat < 128) (hs : s.length ≤ 17592186044416) :
 Calls Tryz.prog 176 #[.string ⟨s.toArray⟩] w fun e w' => e = .returned (.string ⟨s.toArray⟩) ∧ Below w.heap.size w w' := by
 have hsz : (⟨s.toArray⟩ : ByteArray).size = s.length := by simp [ByteArray.size]
 refine (uRepair asciiB ascii_step ⟨s.toArray⟩ w (fun b hb => (h b (by simpa using hb)).2) (by omega) (fun t W hg hz _ => ascii_dec t W hg hz)).mono fun e w' ⟨he, hb⟩ => ⟨?_, hb⟩
 rw [he, repF_ascii s _ (by omega) h]
end Go.Proofs
namespace Go.Mu
open Go Go.Proofs
theorem repA_ok (s : Oc) (h : ∀ c ∈ s, 1 ≤ c.toNat ∧ c.toNat < 128) (hs : s.length ≤ 17592186044416) : CallOK Tryz.prog 176 [.str s] [] (.ret (.str s) []) := by
 refine CallOK.below (fun w E cs sim hl hr => ?_)
 obtain ⟨x, rfl⟩ : ∃ x, cs = [x] := by
  match cs, hl with
  | [x], _ => exact ⟨x, rfl⟩
 obtain ⟨b, e1, e2⟩ := rep_str (hr 0 (by simp))
 replace e1 : x = .string b := e1
 subst e1
 rw [ba_eq e2]
 exact ⟨.string (ba s), uRepairA s w h hs, .pure _ _ (.str (ba s))⟩
def repATold : FSp := mkFS [.s] (fun xs => (aS xs 0).all (fun c => decide (1 ≤ c.toNat) && decide (c.toNat < 128)) && decide ((aS xs 0).length ≤ 17592186044416)) (fun xs k => k (.ret (.str (aS xs 0)) []))
theorem repATold_ok : ∀ xs H k out, repATold xs H k = some out → ∃ o, CallOK Tryz.prog 176 xs H o ∧ k o = some out := mkFS_ok fun ys xs e h => by
 obtain ⟨s, rfl⟩ : ∃ s, xs = [.str s] := ⟨_, e⟩
 rw [Bool.and_eq_true, decide_eq_true_eq, List.all_eq_true] at h
 refine ⟨_, fun k => rfl, repA_ok s (fun c hc => ?_) h.2⟩
 have := h.1 c hc
 rw [Bool.and_eq_true, decide_eq_true_eq, decide_eq_true_eq] at this
 exact this
end Go.Mu
namespace Go.Mu
open Go Go.Proofs
end Go.Mu
namespace Go.Mu
open Go Go.Proofs
end Go.Mu
namespace Go.Mu
open Go Go.Proofs
end Go.Mu
namespace Go.Mu
open Go Go.Proofs
abbrev Nm := Oc
structure NdD where
 kind : Int
 text : Nm
 name : Nm
 pf : Bool
 pn : Nat
 pr : Nat → List AVal
 bf : Bool
 bn : Nat
 br : Nat → List AVal
 ef : Bool
 en : Nat
 er : Nat → List AVal
 at_ : Int
 esc : Int
 unit : Int
def nd0 : NdD := ⟨0, [], [], true, 0, fun _ => [], true, 0, fun _ => [], true, 0, fun _ => [], 0, 0, 0⟩
def NdD.body (n : NdD) : AVal := .list n.bf n.bn n.br
def NdD.els (n : NdD) : AVal := .list n.ef n.en n.er
def rowOf : AVal → Nat → List AVal
 | .list _ _ r => r
 | _ => fun _ => []
def encNd (n : NdD) : List AVal := [.int .i64 n.kind, .str n.text, .str n.name, .list n.pf n.pn n.pr, .list n.bf n.bn n.br, .list n.ef n.en n.er, .int .i64 n.at_, .int .i64 n.esc, .int .i64 n.unit]
def cAt (r : List AVal) (j : Nat) : AVal := r.getD j .undef
def decNd (r : List AVal) : NdD :=
 ⟨intOf (cAt r 0), strOf (cAt r 1), strOf (cAt r 2), fullOf (cAt r 3), lenL (cAt r 3), rowOf (cAt r 3), fullOf (cAt r 4), lenL (cAt r 4), rowOf (cAt r 4), fullOf (cAt r 5), lenL (cAt r 5), rowOf (cAt r 5), intOf (cAt r 6), intOf (cAt r 7), intOf (cAt r 8)⟩
theorem decNd_enc (n : NdD) : decNd (encNd n) = n := rfl
noncomputable def wfNd (r : List AVal) : Bool := tst (r = encNd (decNd r))
theorem wfNd_sub (r : List AVal) (h : wfNd r = true) : SubL r (encNd (decNd r)) := by rw [← of_tst h]; exact .refl _
theorem wfNd_enc (n : NdD) : wfNd (encNd n) = true := tst_true rfl
abbrev encNds (full : Bool) (l : List NdD) : AVal := encL full encNd nd0 l
abbrev nodes (x : AVal) : List NdD := decL decNd x
theorem nodes_enc (full : Bool) (l : List NdD) : nodes (encNds full l) = l := decL_encL decNd_enc l
def wfV : Nat → AVal → Prop
 | 0, _ => False
 | d + 1, x => wfL wfNd x = true ∧ lenL x ≤ 1099511627776 ∧ ∀ n ∈ nodes x, wfV d n.body ∧ wfV d n.els
def cntV : Nat → AVal → Nat
 | 0, _ => 0
 | d + 1, x => ((nodes x).map (fun n => 1 + cntV d n.body + cntV d n.els)).sum
def chN (n : NdD) : Nat := bif decide (n.kind ≥ 3) && decide (n.kind ≤ 6) then 1 else 0
def chsV : Nat → AVal → Nat
 | 0, _ => 0
 | d + 1, x => ((nodes x).map (fun n => chN n + chsV d n.body + chsV d n.els)).sum
structure ChA where
 f : Bool
 l : List NdD
 H : Heap
noncomputable def chTold (C : AVal → Nat) (W : AVal → Prop) : FSp := fun xs H k => match xs with
 | [x] => cond (tst (W x)) (k (.ret (.int .i64 (C x)) H)) none
 | _ => none
noncomputable def layCh (C : AVal → Nat) (W : AVal → Prop) : Lay := Lay.nil.addF 11 (chTold C W)
noncomputable def layCl2 (C : AVal → Nat) (W : AVal → Prop) : Lay := Lay.nil.addF 12 (chTold C W)
noncomputable def chSp (C : AVal → Nat) (W : AVal → Prop) : LSp := mkL (fun vs _ H => ChA.mk (fullOf (vs.getD 1 .undef)) (nodes (vs.getD 1 .undef)) H) (fun a => W (encNds a.f a.l)) (fun a => [.int .i64 0, encNds a.f a.l, .int .i64 (a.l.length : Nat), .int .i64 0]) (fun _ => []) (fun a => a.H)
 (fun a k => k (.exit 0) [.int .i64 (C (encNds a.f a.l))] [] a.H)
noncomputable def chFH (C : AVal → Nat) (W : AVal → Prop) : FH := .of [(3, loopSpec 33 [3,6,7,8] [] [3] [] (chSp C W))]
theorem ch_step (C : AVal → Nat) (W : AVal → Prop) (C' : AVal → Nat) (W' : AVal → Prop) (f : Bool) (l : List NdD) (c n i : Int) (H : Heap) (D : Dfs) (k : Kont) : lturn Tryz.prog (layCh C W) (chFH C' W') 11 3 [3,6,7,8] [] [3] [] (stL 33 [3,6,7,8] [.int .i64 c, encNds f l, .int .i64 n, .int .i64 i] [] [] H D) k = (
 let n0 : Int := (l.getD i.toNat nd0).kind;
 let c1 : Bool := tst (W (AVal.list (l.getD i.toNat nd0).bf (l.getD i.toNat nd0).bn (l.getD i.toNat nd0).br));
 let c2 : Bool := tst (W (AVal.list (l.getD i.toNat nd0).ef (l.getD i.toNat nd0).en (l.getD i.toNat nd0).er));
 let n3 : Int := IntKind.i64.wrap ((↑(C (AVal.list (l.getD i.toNat nd0).bf (l.getD i.toNat nd0).bn (l.getD i.toNat nd0).br)) : Int) + (↑(C (AVal.list (l.getD i.toNat nd0).ef (l.getD i.toNat nd0).en (l.getD i.toNat nd0).er)) : Int));
  bif decide (i < n) then bif decide (0 ≤ i) && decide (i < (↑l.length : Int)) then bif bif decide (n0 ≥ 3) then decide (n0 ≤ 6) else false then bif c1 then bif c2 then k AExit.normal (stL 33 [3, 6, 7, 8] [AVal.int .i64 (IntKind.i64.wrap (IntKind.i64.wrap (c + 1) + n3)), AVal.list f l.length fun (i : Nat) => encNd (l.getD i nd0), AVal.int .i64 n, AVal.int .i64 (IntKind.i64.wrap (i + 1))] [] [] H D) else none else none else bif c1 then bif c2 then k AExit.normal (stL 33 [3, 6, 7, 8] [AVal.int .i64 (IntKind.i64.wrap (c + n3)), AVal.list f l.length fun (i : Nat) => encNd (l.getD i nd0), AVal.int .i64 n, AVal.int .i64 (IntKind.i64.wrap (i + 1))] [] [] H D) else none else none else none else k (AExit.exit 0) (stL 33 [3] [AVal.int .i64 c] [] [] H D)) := by kernel_rfl
noncomputable def layCh1 (C : AVal → Nat) (W : AVal → Prop) (C' : AVal → Nat) (W' : AVal → Prop) : Lay := (layCh C W).addL 11 (chFH C' W')
theorem ch_fun (C : AVal → Nat) (W : AVal → Prop) (C' : AVal → Nat) (W' : AVal → Prop) (f : Bool) (l : List NdD) (H : Heap) (k : Out → Ans) : iFun Tryz.prog ((layCh1 C W C' W').hd Tryz.prog) (layCh1 C W C' W').fhs 0 11 [encNds f l] H k = (
 bif tst (W' (encNds (fullOf (AVal.list f l.length fun (i : Nat) => encNd (l.getD i nd0))) (nodes (AVal.list f l.length fun (i : Nat) => encNd (l.getD i nd0)))) ∧ SubTL [AVal.int .i64 0, AVal.list f l.length fun (i : Nat) => encNd (l.getD i nd0), AVal.int .i64 (↑l.length : Int), AVal.int .i64 0] [AVal.int .i64 0, encNds (fullOf (AVal.list f l.length fun (i : Nat) => encNd (l.getD i nd0))) (nodes (AVal.list f l.length fun (i : Nat) => encNd (l.getD i nd0))), AVal.int .i64 (↑(nodes (AVal.list f l.length fun (i : Nat) => encNd (l.getD i nd0))).length : Int), AVal.int .i64 0] ∧ ([] : List (List AVal)) = [] ∧ H = H) then k (Out.ret (AVal.int .i64 (↑(C' (encNds (fullOf (AVal.list f l.length fun (i : Nat) => encNd (l.getD i nd0))) (nodes (AVal.list f l.length fun (i : Nat) => encNd (l.getD i nd0))))) : Int)) H) else none) := by kernel_rfl
noncomputable def lchSp (C : AVal → Nat) (W : AVal → Prop) : LSp := mkL (fun vs _ H => ChA.mk (fullOf (vs.getD 0 .undef)) (nodes (vs.getD 0 .undef)) H) (fun a => W (encNds a.f a.l)) (fun a => [encNds a.f a.l, .int .i64 0, .int .i64 0]) (fun _ => []) (fun a => a.H)
 (fun a k => k (.exit 0) [.int .i64 (C (encNds a.f a.l))] [] a.H)
noncomputable def lchFH (C : AVal → Nat) (W : AVal → Prop) : FH := .of [(3, loopSpec 59 [0,3,4] [] [3] [] (lchSp C W))]
theorem lch_step (C : AVal → Nat) (W : AVal → Prop) (C' : AVal → Nat) (W' : AVal → Prop) (f : Bool) (l : List NdD) (c i : Int) (H : Heap) (D : Dfs) (k : Kont) : lturn Tryz.prog (layCl2 C W) (lchFH C' W') 12 3 [0,3,4] [] [3] [] (stL 59 [0,3,4] [encNds f l, .int .i64 c, .int .i64 i] [] [] H D) k = (
 let c0 : Bool := decide (i < (↑l.length : Int));
 let c1 : Bool := decide (0 ≤ i) && c0;
 let n2 : Int := (l.getD i.toNat nd0).kind;
 let c3 : Bool := n2 == 3;
 let c4 : Bool := bif c3 then true else n2 == 4;
 let c5 : Bool := bif c4 then true else n2 == 5;
 let c6 : Bool := tst (W (AVal.list (l.getD i.toNat nd0).bf (l.getD i.toNat nd0).bn (l.getD i.toNat nd0).br));
 let c7 : Bool := tst (W (AVal.list (l.getD i.toNat nd0).ef (l.getD i.toNat nd0).en (l.getD i.toNat nd0).er));
 let n8 : Int := (↑(C (AVal.list (l.getD i.toNat nd0).bf (l.getD i.toNat nd0).bn (l.getD i.toNat nd0).br)) : Int);
 let n9 : Int := (↑(C (AVal.list (l.getD i.toNat nd0).ef (l.getD i.toNat nd0).en (l.getD i.toNat nd0).er)) : Int);
  bif c0 then bif c1 then bif c1 || !!c3 then bif c1 || !!c4 then bif c1 || !!c5 then bif bif c5 then true else n2 == 6 then bif c1 then bif c6 then bif c1 then bif c7 then k AExit.normal (stL 59 [0, 3, 4] [AVal.list f l.length fun (i : Nat) => encNd (l.getD i nd0), AVal.int .i64 (IntKind.i64.wrap (IntKind.i64.wrap (IntKind.i64.wrap (c + 1) + n8) + n9)), AVal.int .i64 (IntKind.i64.wrap (i + 1))] [] [] H D) else none else none else none else none else bif c1 then bif c6 then bif c1 then bif c7 then k AExit.normal (stL 59 [0, 3, 4] [AVal.list f l.length fun (i : Nat) => encNd (l.getD i nd0), AVal.int .i64 (IntKind.i64.wrap (IntKind.i64.wrap (c + n8) + n9)), AVal.int .i64 (IntKind.i64.wrap (i + 1))] [] [] H D) else none else none else none else none else none else none else none else none else k (AExit.exit 0) (stL 59 [3] [AVal.int .i64 c] [] [] H D)) := by kernel_rfl
noncomputable def layLc1 (C : AVal → Nat) (W : AVal → Prop) (C' : AVal → Nat) (W' : AVal → Prop) : Lay := (layCl2 C W).addL 12 (lchFH C' W')
theorem lch_fun (C : AVal → Nat) (W : AVal → Prop) (C' : AVal → Nat) (W' : AVal → Prop) (f : Bool) (l : List NdD) (H : Heap) (k : Out → Ans) : iFun Tryz.prog ((layLc1 C W C' W').hd Tryz.prog) (layLc1 C W C' W').fhs 0 12 [encNds f l] H k = (
 bif tst (W' (encNds (fullOf (AVal.list f l.length fun (i : Nat) => encNd (l.getD i nd0))) (nodes (AVal.list f l.length fun (i : Nat) => encNd (l.getD i nd0)))) ∧ SubTL [AVal.list f l.length fun (i : Nat) => encNd (l.getD i nd0), AVal.int .i64 0, AVal.int .i64 0] [encNds (fullOf (AVal.list f l.length fun (i : Nat) => encNd (l.getD i nd0))) (nodes (AVal.list f l.length fun (i : Nat) => encNd (l.getD i nd0))), AVal.int .i64 0, AVal.int .i64 0] ∧ ([] : List (List AVal)) = [] ∧ H = H) then k (Out.ret (AVal.int .i64 (↑(C' (encNds (fullOf (AVal.list f l.length fun (i : Nat) => encNd (l.getD i nd0))) (nodes (AVal.list f l.length fun (i : Nat) => encNd (l.getD i nd0))))) : Int)) H) else none) := by kernel_rfl
end Go.Mu
namespace Go.Mu
open Go Go.Proofs
abbrev chW (d : Nat) (x : AVal) : Prop := wfV d x ∧ cntV d x ≤ 1099511627776
def stepC (d : Nat) (n : NdD) : Nat := chN n + chsV d n.body + chsV d n.els
theorem chN_le (n : NdD) : chN n ≤ 1 := by
 unfold chN
 cases decide (n.kind ≥ 3) && decide (n.kind ≤ 6) <;> simp
theorem chsV_le : ∀ (d : Nat) (x : AVal), chsV d x ≤ cntV d x
 | 0, x => by simp [chsV, cntV]
 | d + 1, x => by
  unfold chsV cntV
  generalize nodes x = l
  induction l with
  | nil => simp
  | cons n l ih =>
   simp only [List.map_cons, List.sum_cons]
   have h1 := chN_le n
   have h2 := chsV_le d n.body
   have h3 := chsV_le d n.els
   omega
theorem cnd_and (a b : Bool) : (bif a then b else false) = (a && b) := by cases a <;> rfl
theorem kinds_or (n : Int) : (bif bif bif n == 3 then true else n == 4 then true else n == 5 then true else n == 6) = (decide (n ≥ 3) && decide (n ≤ 6)) := by
 rw [Bool.eq_iff_iff]
 simp only [Bool.cond_true_left, Bool.or_eq_true, beq_iff_eq, Bool.and_eq_true, decide_eq_true_eq]
 omega
noncomputable abbrev chTurn (d : Nat) := lturn Tryz.prog (layCh (chsV d) (chW d)) (chFH (chsV (d + 1)) (chW (d + 1))) 11 3 [3,6,7,8] [] [3] []
abbrev chSt (f : Bool) (l : List NdD) (c i : Int) (H : Heap) (D : Dfs) : St := stL 33 [3,6,7,8] [.int .i64 c, encNds f l, .int .i64 (l.length : Nat), .int .i64 i] [] [] H D
theorem wr_i {n : Int} (h1 : 0 ≤ n) (h2 : n ≤ 4611686018427387904) : IntKind.i64.wrap n = n := wrap_of (by omega) (by omega)
theorem ch_rd {d : Nat} {f : Bool} {l : List NdD} {c i : Nat} (H : Heap) (D : Dfs) (k : Kont) (hi : i < l.length) (hl : l.length ≤ 1099511627776) (h1 : chW d (l.getD i nd0).body) (h2 : chW d (l.getD i nd0).els)
 (hc : c + stepC d (l.getD i nd0) ≤ 1099511627776) : chTurn d (chSt f l c i H D) k = k .normal (chSt f l ((c + stepC d (l.getD i nd0) : Nat) : Int) ((i + 1 : Nat) : Int) H D) := by
 refine (ch_step _ _ _ _ f l c (l.length : Nat) i H D k).trans ?_
 rw [wrap_add1 (i := i) (by omega), Int.toNat_natCast]
 generalize l.getD i nd0 = n at h1 h2 hc
 have e1 : tst (chW d (AVal.list n.bf n.bn n.br)) = true := tst_true h1
 have e2 : tst (chW d (AVal.list n.ef n.en n.er)) = true := tst_true h2
 have e3 : ∀ x : Nat, x ≤ 1099511627776 → IntKind.i64.wrap (x : Int) = x := fun x hx => wr_i (by omega) (by omega)
 unfold stepC at hc ⊢
 have s1 : ((chsV d (AVal.list n.bf n.bn n.br) : Nat) : Int) + ((chsV d (AVal.list n.ef n.en n.er) : Nat) : Int) = ((chsV d n.body + chsV d n.els : Nat) : Int) := by
  rw [Int.natCast_add]; rfl
 rw [s1]
 generalize chsV d n.body = p at hc ⊢
 generalize chsV d n.els = q at hc ⊢
 simp only [e1, e2, dT (show ((i : Nat) : Int) < (l.length : Nat) by omega), dT (show (0 : Int) ≤ (i : Nat) by omega), Bool.and_true, cond_true, cnd_and]
 unfold chN at hc ⊢
 cases hk : (decide (n.kind ≥ 3) && decide (n.kind ≤ 6)) with
 | true =>
  rw [hk] at hc
  simp only [cond_true] at hc ⊢
  rw [show ((c : Nat) : Int) + 1 = ((c + 1 : Nat) : Int) by omega, e3 (c + 1) (by omega), e3 (p + q) (by omega), show ((c + 1 : Nat) : Int) + ((p + q : Nat) : Int) = ((c + (1 + p + q) : Nat) : Int) by omega, e3 _ (by omega)]
 | false =>
  rw [hk] at hc
  simp only [cond_false] at hc ⊢
  rw [e3 (p + q) (by omega), show ((c : Nat) : Int) + ((p + q : Nat) : Int) = ((c + (0 + p + q) : Nat) : Int) by omega, e3 _ (by omega)]
theorem ch_end {d : Nat} {f : Bool} {l : List NdD} {c : Nat} (H : Heap) (D : Dfs) (k : Kont) : chTurn d (chSt f l c (l.length : Nat) H D) k = k (.exit 0) (stL 33 [3] [.int .i64 c] [] [] H D) := by
 refine (ch_step _ _ _ _ f l c (l.length : Nat) (l.length : Nat) H D k).trans ?_
 simp only [dF (show ¬ ((l.length : Nat) : Int) < (l.length : Nat) by omega), cond_false]
noncomputable abbrev lchTurn (d : Nat) := lturn Tryz.prog (layCl2 (chsV d) (chW d)) (lchFH (chsV (d + 1)) (chW (d + 1))) 12 3 [0,3,4] [] [3] []
abbrev lchSt (f : Bool) (l : List NdD) (c i : Int) (H : Heap) (D : Dfs) : St := stL 59 [0,3,4] [encNds f l, .int .i64 c, .int .i64 i] [] [] H D
theorem lch_rd {d : Nat} {f : Bool} {l : List NdD} {c i : Nat} (H : Heap) (D : Dfs) (k : Kont) (hi : i < l.length) (hl : l.length ≤ 1099511627776) (h1 : chW d (l.getD i nd0).body) (h2 : chW d (l.getD i nd0).els)
 (hc : c + stepC d (l.getD i nd0) ≤ 1099511627776) : lchTurn d (lchSt f l c i H D) k = k .normal (lchSt f l ((c + stepC d (l.getD i nd0) : Nat) : Int) ((i + 1 : Nat) : Int) H D) := by
 refine (lch_step _ _ _ _ f l c i H D k).trans ?_
 rw [wrap_add1 (i := i) (by omega), Int.toNat_natCast]
 generalize l.getD i nd0 = n at h1 h2 hc
 have e1 : tst (chW d (AVal.list n.bf n.bn n.br)) = true := tst_true h1
 have e2 : tst (chW d (AVal.list n.ef n.en n.er)) = true := tst_true h2
 have e3 : ∀ x : Nat, x ≤ 1099511627776 → IntKind.i64.wrap (x : Int) = x := fun x hx => wr_i (by omega) (by omega)
 unfold stepC at hc ⊢
 have s1 : chsV d (AVal.list n.bf n.bn n.br) = chsV d n.body := rfl
 have s2 : chsV d (AVal.list n.ef n.en n.er) = chsV d n.els := rfl
 rw [s1, s2]
 generalize chsV d n.body = p at hc ⊢
 generalize chsV d n.els = q at hc ⊢
 simp only [e1, e2, dT (show ((i : Nat) : Int) < (l.length : Nat) by omega), dT (show (0 : Int) ≤ (i : Nat) by omega), Bool.and_true, Bool.true_or, cond_true, kinds_or]
 unfold chN at hc ⊢
 cases hk : (decide (n.kind ≥ 3) && decide (n.kind ≤ 6)) with
 | true =>
  rw [hk] at hc
  simp only [cond_true] at hc ⊢
  rw [show ((c : Nat) : Int) + 1 = ((c + 1 : Nat) : Int) by omega, e3 (c + 1) (by omega), show ((c + 1 : Nat) : Int) + ((p : Nat) : Int) = ((c + 1 + p : Nat) : Int) by omega, e3 (c + 1 + p) (by omega), show ((c + 1 + p : Nat) : Int) + ((q : Nat) : Int) = ((c + (1 + p + q) : Nat) : Int) by omega, e3 _ (by omega)]
 | false =>
  rw [hk] at hc
  simp only [cond_false] at hc ⊢
  rw [show ((c : Nat) : Int) + ((p : Nat) : Int) = ((c + p : Nat) : Int) by omega, e3 (c + p) (by omega), show ((c + p : Nat) : Int) + ((q : Nat) : Int) = ((c + (0 + p + q) : Nat) : Int) by omega, e3 _ (by omega)]
theorem lch_end {d : Nat} {f : Bool} {l : List NdD} {c : Nat} (H : Heap) (D : Dfs) (k : Kont) : lchTurn d (lchSt f l c (l.length : Nat) H D) k = k (.exit 0) (stL 59 [3] [.int .i64 c] [] [] H D) := by
 refine (lch_step _ _ _ _ f l c (l.length : Nat) H D k).trans ?_
 simp only [dF (show ¬ ((l.length : Nat) : Int) < (l.length : Nat) by omega), cond_false]
theorem cnt_runs {turn : St → Kont → Ans} {d : Nat} {S : Nat → Nat → List (FuncId × List AVal) → St} {E : Nat → List (FuncId × List AVal) → St} {l : List NdD} (hw : ∀ n ∈ l, chW d n.body ∧ chW d n.els)
 (h1 : ∀ (c i : Nat) D (k : Kont), i < l.length → chW d (l.getD i nd0).body → chW d (l.getD i nd0).els → c + stepC d (l.getD i nd0) ≤ 1099511627776 → turn (S c i D) k = k .normal (S (c + stepC d (l.getD i nd0)) (i + 1) D))
 (h2 : ∀ (c : Nat) D (k : Kont), turn (S c l.length D) k = k (.exit 0) (E c D)) (D : Dfs) (k : Kont) : ∀ (m i c : Nat), i + m = l.length → c + ((l.drop i).map (stepC d)).sum ≤ 1099511627776 →
  rounds turn (m + 1) (S c i D) k = k (.exit 0) (E (c + ((l.drop i).map (stepC d)).sum) D)
 | 0, i, c, he, hn => by
  obtain rfl : i = l.length := by omega
  rw [rounds_succ', h2, List.drop_length]
  rfl
 | m + 1, i, c, he, hn => by
  have hi : i < l.length := by omega
  have e1 : l.getD i nd0 = l[i] := by simp [List.getD_eq_getElem?_getD, List.getElem?_eq_getElem hi]
  have hm := hw _ (List.getElem_mem hi)
  rw [← e1] at hm
  rw [List.drop_eq_getElem_cons hi, ← e1] at hn ⊢
  simp only [List.map_cons, List.sum_cons] at hn ⊢
  rw [rounds_succ', h1 c i D _ hi hm.1 hm.2 (by omega)]
  have := cnt_runs hw h1 h2 D k m (i + 1) (c + stepC d (l.getD i nd0)) (by omega) (by omega)
  rw [show c + (stepC d (l.getD i nd0) + ((l.drop (i + 1)).map (stepC d)).sum) = c + stepC d (l.getD i nd0) + ((l.drop (i + 1)).map (stepC d)).sum by omega]
  exact this
theorem le_sum_mem : ∀ {l : List Nat} {x : Nat}, x ∈ l → x ≤ l.sum
 | y :: l, x, h => by
  rw [List.sum_cons]
  rcases List.mem_cons.1 h with rfl | h
  · omega
  · have := le_sum_mem h; omega
theorem chW_of {d : Nat} {f : Bool} {l : List NdD} (h : chW (d + 1) (encNds f l)) : l.length ≤ 1099511627776 ∧ (∀ n ∈ l, chW d n.body ∧ chW d n.els) ∧ (l.map (stepC d)).sum = chsV (d + 1) (encNds f l) ∧ (l.map (stepC d)).sum ≤ 1099511627776 := by
 obtain ⟨⟨h1, h2, h3⟩, h4⟩ := h
 have e : nodes (encNds f l) = l := nodes_enc f l
 rw [e] at h3
 have e2 : chsV (d + 1) (encNds f l) = (l.map (stepC d)).sum := by
  unfold chsV
  rw [e]; rfl
 have e3 : cntV (d + 1) (encNds f l) = (l.map (fun n => 1 + cntV d n.body + cntV d n.els)).sum := by
  conv => lhs; unfold cntV
  rw [e]
 have h5 := chsV_le (d + 1) (encNds f l)
 rw [e2] at h5
 refine ⟨h2, fun n hn => ?_, e2.symm, by omega⟩
 have h6 : 1 + cntV d n.body + cntV d n.els ≤ cntV (d + 1) (encNds f l) := by
  rw [e3]
  exact le_sum_mem (List.mem_map.2 ⟨n, hn, rfl⟩)
 exact ⟨⟨(h3 n hn).1, by omega⟩, ⟨(h3 n hn).2, by omega⟩⟩
noncomputable abbrev chT (d : Nat) : FSp := chTold (chsV d) (chW d)
theorem sub_W {d : Nat} {x : AVal} (h : chW (d + 1) x) : chW (d + 1) (encNds (fullOf x) (nodes x)) ∧ chsV (d + 1) (encNds (fullOf x) (nodes x)) = chsV (d + 1) x ∧ Sub x (encNds (fullOf x) (nodes x)) := by
 obtain ⟨⟨h1, h2, h3⟩, h4⟩ := h
 have e1 : nodes (encNds (fullOf x) (nodes x)) = nodes x := nodes_enc _ _
 have hl2 : (nodes x).length = lenL x := lenL_decL (g := decNd) h1
 refine ⟨⟨⟨wfL_encL wfNd_enc _, by show (nodes x).length ≤ _; rw [hl2]; exact h2, by rw [e1]; exact h3⟩, ?_⟩, ?_, sub_encL h1 wfNd_sub⟩
 · have : cntV (d + 1) (encNds (fullOf x) (nodes x)) = cntV (d + 1) x := by unfold cntV; rw [e1]
   rw [this]; exact h4
 · unfold chsV; rw [e1]
theorem chSp_ok (d : Nat) : SpOK (chTurn d) 33 [3,6,7,8] [] [3] [] (chSp (chsV (d + 1)) (chW (d + 1))) := mkL_ok fun a h => by
 obtain ⟨f, l, H⟩ := a
 replace h : chW (d + 1) (encNds f l) := h
 obtain ⟨hl, hw, hs, hb⟩ := chW_of h
 refine ⟨_, _, _, _, fun k => rfl, l.length + 1, fun D k => ?_⟩
 have := cnt_runs (S := fun c i D => chSt f l c i H D) (E := fun c D => stL 33 [3] [.int .i64 c] [] [] H D) hw (fun c i D k hi h1 h2 hc => ch_rd H D k hi hl h1 h2 hc) (fun c D k => ch_end H D k) D k l.length 0 0 (by omega) (by simpa using hb)
 rw [List.drop_zero, hs, Nat.zero_add] at this
 exact this
theorem lchSp_ok (d : Nat) : SpOK (lchTurn d) 59 [0,3,4] [] [3] [] (lchSp (chsV (d + 1)) (chW (d + 1))) := mkL_ok fun a h => by
 obtain ⟨f, l, H⟩ := a
 replace h : chW (d + 1) (encNds f l) := h
 obtain ⟨hl, hw, hs, hb⟩ := chW_of h
 refine ⟨_, _, _, _, fun k => rfl, l.length + 1, fun D k => ?_⟩
 have := cnt_runs (S := fun c i D => lchSt f l c i H D) (E := fun c D => stL 59 [3] [.int .i64 c] [] [] H D) hw (fun c i D k hi h1 h2 hc => lch_rd H D k hi hl h1 h2 hc) (fun c D k => lch_end H D k) D k l.length 0 0 (by omega) (by simpa using hb)
 rw [List.drop_zero, hs, Nat.zero_add] at this
 exact this
theorem chT_ok : ∀ (d : Nat) (xs : List AVal) (H : Heap) (k : Out → Ans) (out : Out), chT d xs H k = some out → ∃ o, CallOK Tryz.prog 11 xs H o ∧ k o = some out
 | d, xs, H, k, out, ho => by
  unfold chT chTold at ho
  split at ho
  case h_2 => simp at ho
  rename_i x
  rw [Bool.cond_eq_ite] at ho
  split at ho
  case isFalse => simp at ho
  rename_i hc
  have hW := of_tst hc
  cases d with
  | zero => exact hW.1.elim
  | succ d =>
   have hE : (layCh (chsV d) (chW d)).OK Tryz.prog := Lay.nil_ok.addF (chT_ok d)
   have hE1 : (layCh1 (chsV d) (chW d) (chsV (d + 1)) (chW (d + 1))).OK Tryz.prog := hE.loop1 (id := 3) (by kernel_rfl) (by kernel_rfl) (by kernel_rfl) (chSp_ok d)
   obtain ⟨w1, w2, w3⟩ := sub_W hW
   refine ⟨_, CallOK.subArgs (hE1.call (o := .ret (.int .i64 (chsV (d + 1) x)) H) (fun k => ?_)) (.cons w3 .nil), ho⟩
   refine (ch_fun _ _ _ _ _ _ H k).trans ?_
   have e : encNds (fullOf (encNds (fullOf x) (nodes x))) (nodes (encNds (fullOf x) (nodes x))) = encNds (fullOf x) (nodes x) := by rw [nodes_enc]; rfl
   refine cT (tst_true ⟨?_, ?_, rfl, rfl⟩) ?_
   · show chW (d + 1) (encNds (fullOf (encNds (fullOf x) (nodes x))) (nodes (encNds (fullOf x) (nodes x))))
     rw [e]; exact w1
   · show SubTL _ [_, encNds (fullOf (encNds (fullOf x) (nodes x))) (nodes (encNds (fullOf x) (nodes x))), .int .i64 ((nodes (encNds (fullOf x) (nodes x))).length : Nat), _]
     rw [e, nodes_enc]; exact .refl _
   · show k (.ret (.int .i64 (chsV (d + 1) (encNds (fullOf (encNds (fullOf x) (nodes x))) (nodes (encNds (fullOf x) (nodes x)))) : Nat)) H) = _
     rw [e, w2]
theorem lchT_ok : ∀ (d : Nat) (xs : List AVal) (H : Heap) (k : Out → Ans) (out : Out), chT d xs H k = some out → ∃ o, CallOK Tryz.prog 12 xs H o ∧ k o = some out
 | d, xs, H, k, out, ho => by
  unfold chT chTold at ho
  split at ho
  case h_2 => simp at ho
  rename_i x
  rw [Bool.cond_eq_ite] at ho
  split at ho
  case isFalse => simp at ho
  rename_i hc
  have hW := of_tst hc
  cases d with
  | zero => exact hW.1.elim
  | succ d =>
   have hE : (layCl2 (chsV d) (chW d)).OK Tryz.prog := Lay.nil_ok.addF (lchT_ok d)
   have hE1 : (layLc1 (chsV d) (chW d) (chsV (d + 1)) (chW (d + 1))).OK Tryz.prog := hE.loop1 (id := 3) (by kernel_rfl) (by kernel_rfl) (by kernel_rfl) (lchSp_ok d)
   obtain ⟨w1, w2, w3⟩ := sub_W hW
   refine ⟨_, CallOK.subArgs (hE1.call (o := .ret (.int .i64 (chsV (d + 1) x)) H) (fun k => ?_)) (.cons w3 .nil), ho⟩
   refine (lch_fun _ _ _ _ _ _ H k).trans ?_
   have e : encNds (fullOf (encNds (fullOf x) (nodes x))) (nodes (encNds (fullOf x) (nodes x))) = encNds (fullOf x) (nodes x) := by rw [nodes_enc]; rfl
   refine cT (tst_true ⟨?_, ?_, rfl, rfl⟩) ?_
   · show chW (d + 1) (encNds (fullOf (encNds (fullOf x) (nodes x))) (nodes (encNds (fullOf x) (nodes x))))
     rw [e]; exact w1
   · show SubTL _ [encNds (fullOf (encNds (fullOf x) (nodes x))) (nodes (encNds (fullOf x) (nodes x))), _, _]
     rw [e]; exact .refl _
   · show k (.ret (.int .i64 (chsV (d + 1) (encNds (fullOf (encNds (fullOf x) (nodes x))) (nodes (encNds (fullOf x) (nodes x)))) : Nat)) H) = _
     rw [e, w2]
end Go.Mu
namespace Go.Mu
open Go Go.Proofs
structure TpA where
 f : Bool
 l : List Int
structure LpA where
 f : Bool
 l : List Int
 y : AVal
def aliveT (f : FuncId) : FSp := mkFS [] (fun _ => true) (fun _ k => k (.ret (.bool true) []))
noncomputable def layLc (C : AVal → Nat) (W : AVal → Prop) : Lay := ((Lay.nil.addF 11 (chTold C W)).addF 12 (chTold C W)).addF 10 (aliveT 0)
theorem lc_fun (C : AVal → Nat) (W : AVal → Prop) (f : Bool) (l : List NdD) (k : Out → Ans) : iFun Tryz.prog ((layLc C W).hd Tryz.prog) (layLc C W).fhs 0 4 [encNds f l] [] k = (
 let c0 : Bool :=
  tst
  (W
  (AVal.list f l.length fun (i : Nat) =>
  encNd
  (l.getD i
  nd0)));
 let n1 : Int :=
  (↑(C
  (AVal.list f l.length fun (i : Nat) =>
  encNd
  (l.getD i
  nd0))) :
  Int);
  bif c0 then bif c0 then k (Out.ret (AVal.bool (bif n1 == n1 then true else false)) []) else none else none) := by kernel_rfl
end Go.Mu
namespace Go.Mu
open Go Go.Proofs
end Go.Mu
namespace Go.Mu
open Go Go.Proofs
theorem aliveT_ok {f : FuncId} (h : CallOK Tryz.prog f [] [] (.ret (.bool true) [])) : ∀ xs H k out, aliveT 0 xs H k = some out → ∃ o, CallOK Tryz.prog f xs H o ∧ k o = some out := mkFS_ok fun ys xs e _ => by
 obtain rfl : xs = [] := e
 exact ⟨_, fun k => rfl, h⟩
theorem lc_ok (hal : CallOK Tryz.prog 10 [] [] (.ret (.bool true) [])) (d : Nat) (f : Bool) (l : List NdD) (h : chW d (encNds f l)) : CallOK Tryz.prog 4 [encNds f l] [] (.ret (.bool true) []) := by
 have hok : (layLc (chsV d) (chW d)).OK Tryz.prog := ((Lay.nil_ok.addF (chT_ok d)).addF (lchT_ok d)).addF (aliveT_ok hal)
 refine hok.callF (G := []) rfl (fun k => (lc_fun (chsV d) (chW d) f l k).trans ?_)
 have e : tst (chW d (AVal.list f l.length fun (i : Nat) => encNd (l.getD i nd0))) = true := tst_true h
 dsimp only
 simp only [e, cond_true, beq_self_eq_true]
end Go.Mu
namespace Go.Mu
open Go Go.Proofs
noncomputable def Lay.hdF (P : Program) (L : Lay) (F n : Nat) : Hd := iAll P (Mu.hd L.tab) (fun g => (L.tab g).isSome) L.fhs F n
theorem Lay.OK.hokF {P : Program} {L : Lay} (h : L.OK P) (F n : Nat) : HOK P (L.hdF P F n) := mu_sound (hd_ok h.t) h.l F n
theorem CallOK.none {P : Program} {f : FuncId} {row : Nat → List AVal} {o : Out} (h1 : CallOK P f [.nilX] [] o) (h2 : CallOK P f [.nonS] [] o) : CallOK P f [.list true 0 row] [] o := by
 intro w E cs sim hl hr
 match cs, hl with
 | [c], _ =>
  have hc : Rep w E [] (.list true 0 row) c := hr 0 (by simp)
  obtain ⟨a, cap, e, h3, h4, _⟩ := rep_list hc
  have e2 : cap = 0 := h4 rfl
  subst e2
  cases a with
  | none => exact h1 w E [c] sim rfl (fun j hj => by
   have : j = 0 := by simpa using hj
   subst this; subst e; exact .pure _ _ .nilX)
  | some a => exact h2 w E [c] sim rfl (fun j hj => by
   have : j = 0 := by simpa using hj
   subst this; subst e; exact .pure _ _ (.nonS _ _))
noncomputable def layCl : Lay := Lay.nil.addL 78 { nils := [7] }
theorem layCl_ok : layCl.OK Tryz.prog := Lay.nil_ok.addN (by kernel_rfl)
theorem clone_ok (row : Nat → List AVal) : CallOK Tryz.prog 78 [.list true 0 row] [] (.ret nilList []) :=
 .none (layCl_ok.call (fun k => by kernel_rfl)) (layCl_ok.call (fun k => by kernel_rfl))
def cloneTold : FSp := fun xs H k => match xs, H with
 | [.list true 0 _], [] => k (.ret nilList [])
 | _, _ => none
theorem cloneTold_ok : ∀ xs H k out, cloneTold xs H k = some out → ∃ o, CallOK Tryz.prog 78 xs H o ∧ k o = some out := by
 intro xs H k out h
 unfold cloneTold at h
 split at h
 · exact ⟨_, clone_ok _, h⟩
 · simp at h
def fhsT : FuncId → FH := fun f => match f with
 | 7 => { live := [(3, [3, 6, 7, 8])] }
 | 34 => { heap := [8, 44, 12], typed := [(44, [(0, bT)])] }
 | 38 => { heap := [2, 3, 4, 26], own := [24] }
 | 40 => { heap := [2, 3, 4, 24] }
 | 44 => { heap := [1], live := [(10, [1, 21, 22, 23]), (4, [1, 10, 11, 12])] }
 | 48 => { live := [(4, [1, 2, 3, 15, 16, 17])] }
 | 50 => { heap := [2, 3, 4, 9] }
 | 59 => { live := [(2, [0, 1, 5, 6])], own := [98] }
 | 64 => { heap := [2, 3, 49], live := [(11, [2, 3, 6, 50, 51, 52]), (4, [0, 2, 3, 21, 22, 23])] }
 | 66 => { heap := [5, 6] }
 | 71 => { live := [(3, [3, 6, 7, 8])] }
 | 74 => { heap := [3] }
 | 75 => { live := [(12, [1, 46, 47, 48])] }
 | 77 => { live := [(2, [0, 5, 8, 9, 10])] }
 | 81 => { live := [(2, [0, 1, 4, 8, 9, 10])] }
 | 111 => { live := [(2, [1, 7, 8, 9])] }
 | 113 => { heap := [7], live := [(2, [0, 2, 10, 11, 12])] }
 | 114 => { live := [(2, [0, 1, 7, 8])] }
 | 116 => { live := [(2, [0, 1, 7, 8])] }
 | 118 => { live := [(3, [0, 5, 7, 8, 14, 15, 16])], own := [29] }
 | 120 => { live := [(2, [0, 1, 7, 8])] }
 | 121 => { live := [(4, [13, 14, 15])] }
 | 124 => { live := [(4, [1, 9, 10, 11])] }
 | 140 => { live := [(3, [0, 2, 3, 4])] }
 | 159 => { live := [(2, [0, 1, 7, 8])] }
 | 172 => { live := [(5, [1, 2, 9, 10, 11, 16, 17, 18]), (2, [1, 2, 9, 10, 11])] }
 | 182 => { live := [(9, [2, 4, 6, 7, 8, 9, 19, 20, 21, 27, 28, 29]), (5, [2, 4, 6, 19, 20, 21])] }
 | 215 => { heap := [4, 5, 6], live := [(3, [0, 1, 4, 5, 6])] }
 | 225 => { live := [(5, [1, 2, 4, 17, 18])] }
 | 228 => { heap := [1] }
 | 236 => { live := [(17, [4, 6, 7, 46, 47, 48])] }
 | 239 => { heap := [1, 3] }
 | 259 => { live := [(2, [0, 1, 7, 8])] }
 | 261 => { live := [(12, [1, 4, 5, 7, 8, 10, 59, 60, 61])] }
 | 265 => { heap := [4, 5, 17] }
 | 268 => { live := [(2, [6, 7, 8])] }
 | 273 => { live := [(2, [0, 1, 7, 8])] }
 | 285 => { heap := [3], live := [(3, [3, 8, 9, 10])], typed := [(3, [(0, bT)])] }
 | 306 => { live := [(2, [0, 1, 7, 8])] }
 | 307 => { live := [(2, [0, 1, 7, 8])] }
 | _ => {}
noncomputable def layT0 : Lay := (((((((((Lay.nil.addF 57 itemsTold).addF 158 wordsTold).addF 16 sJoinTold).addF 23 strTold).addF 15 prTold).addF 78 cloneTold).addF 194 numTold).addF 79 trimTold).addF 176 repATold)
theorem layT0_ok : layT0.OK Tryz.prog := (((((((((Lay.nil_ok.addF itemsTold_ok).addF wordsTold_ok).addF sJoinTold_ok).addF strTold_ok).addF prTold_ok).addF cloneTold_ok).addF numTold_ok).addF trimTold_ok).addF repATold_ok)
noncomputable def layT : Lay := ⟨layT0.tab, fhsT⟩
theorem layT_ok : layT.OK Tryz.prog := ⟨layT0_ok.t, .none (fun g i => by show (fhsT g).loops i = none; unfold fhsT; split <;> rfl)⟩
end Go.Mu
namespace Go.Mu
open Go Go.Proofs
abbrev ex31 : Oc := [123, 123, 105, 102, 32, 46, 125, 125, 97, 123, 123, 101, 110, 100, 125, 125]
theorem parse31_fun (k : Out → Ans) : iAll Tryz.prog (Mu.hd layT.tab) (fun g => (layT.tab g).isSome) layT.fhs 60 13 38 [.str ex31] [] k = (
 k (Out.ret (AVal.tuple [AVal.list false 1 fun (i : Nat) => [[AVal.str [], AVal.list false 1 fun (i : Nat) => [[AVal.int .i64 3, AVal.str [], AVal.str [], AVal.list false 1 fun (i : Nat) => [[AVal.str [], AVal.list true 1 fun (i : Nat) => [[AVal.int .i64 1, AVal.str [], AVal.list true 0 fun (x : Nat) => [], AVal.int .i64 0, AVal.str []]].getD i []]].getD i [], AVal.list false 1 fun (i : Nat) => [[AVal.int .i64 1, AVal.str [97], AVal.str [], AVal.list true 0 fun (x : Nat) => [], AVal.list true 0 fun (x : Nat) => [], AVal.list true 0 fun (x : Nat) => [], AVal.int .i64 8, AVal.int .i64 0, AVal.int .i64 0]].getD i [], AVal.list true 0 fun (x : Nat) => [], AVal.int .i64 0, AVal.int .i64 0, AVal.int .i64 0]].getD i []]].getD i [], AVal.int .i64 16, AVal.int .i64 0]) [])) := by kernel_rfl
end Go.Mu
namespace Go.Mu
open Go Go.Proofs
abbrev defs31 : AVal := AVal.list false 1 fun (i : Nat) =>
 [[AVal.str [],
  AVal.list false 1 fun (i : Nat) =>
   [[AVal.int .i64 3, AVal.str [], AVal.str [],
    AVal.list false 1 fun (i : Nat) =>
     [[AVal.str [],
      AVal.list true 1 fun (i : Nat) =>
       [[AVal.int .i64 1, AVal.str [], AVal.list true 0 fun (x : Nat) => [],
        AVal.int .i64 0, AVal.str []]].getD
         i []]].getD
       i [],
    AVal.list false 1 fun (i : Nat) =>
     [[AVal.int .i64 1, AVal.str [97], AVal.str [],
      AVal.list true 0 fun (x : Nat) => [], AVal.list true 0 fun (x : Nat) => [],
      AVal.list true 0 fun (x : Nat) => [], AVal.int .i64 8,
      AVal.int .i64 0, AVal.int .i64 0]].getD
       i [],
    AVal.list true 0 fun (x : Nat) => [], AVal.int .i64 0, AVal.int .i64 0,
    AVal.int .i64 0]].getD
     i []]].getD
   i []
def constTold (s : Oc) (v : AVal) : FSp := mkFS [.s] (fun xs => aS xs 0 == s) (fun xs k => k (.ret v []))
theorem constTold_ok {f : FuncId} {s : Oc} {v : AVal} (h : CallOK Tryz.prog f [.str s] [] (.ret v [])) : ∀ xs H k out, constTold s v xs H k = some out → ∃ o, CallOK Tryz.prog f xs H o ∧ k o = some out := mkFS_ok fun ys xs e h2 => by
 obtain ⟨t, rfl⟩ : ∃ t, xs = [.str t] := ⟨_, e⟩
 obtain rfl : t = s := eq_of_beq h2
 exact ⟨_, fun k => rfl, h⟩
theorem parse31_ok : CallOK Tryz.prog 38 [.str ex31] [] (.ret (.tuple [defs31, .int .i64 16, .int .i64 0]) []) := callOK_of (layT_ok.hokF 60 13) (fun k => parse31_fun k)
noncomputable def lay31 : Lay := layT.addF 38 (constTold ex31 (.tuple [defs31, .int .i64 16, .int .i64 0]))
theorem comp31_fun (k : Out → Ans) : iAll Tryz.prog (Mu.hd lay31.tab) (fun g => (lay31.tab g).isSome) lay31.fhs 60 40 30 [.str ex31] [] k = (
 bif sameV (AVal.list false 1 fun (i : Nat) => [[AVal.str [], AVal.list false 1 fun (i : Nat) => [[AVal.int .i64 3, AVal.str [], AVal.str [], AVal.list false 1 fun (i : Nat) => [[AVal.str [], AVal.list true 1 fun (i : Nat) => [[AVal.int .i64 1, AVal.str [], AVal.list true 0 fun (x : Nat) => [], AVal.int .i64 0, AVal.str []]].getD i []]].getD i [], AVal.list false 1 fun (i : Nat) => [[AVal.int .i64 1, AVal.str [97], AVal.str [], AVal.list true 0 fun (x : Nat) => [], AVal.list true 0 fun (x : Nat) => [], AVal.list true 0 fun (x : Nat) => [], AVal.int .i64 8, AVal.int .i64 0, AVal.int .i64 0]].getD i [], AVal.list true 0 fun (x : Nat) => [], AVal.int .i64 0, AVal.int .i64 0, AVal.int .i64 0]].getD i []]].getD i []) (AVal.list false 1 fun (i : Nat) => [[AVal.str [], AVal.list false 1 fun (i : Nat) => [[AVal.int .i64 3, AVal.str [], AVal.str [], AVal.list false 1 fun (i : Nat) => [[AVal.str [], AVal.list true 1 fun (i : Nat) => [[AVal.int .i64 1, AVal.str [], AVal.list true 0 fun (x : Nat) => [], AVal.int .i64 0, AVal.str []]].getD i []]].getD i [], AVal.list false 1 fun (i : Nat) => [[AVal.int .i64 1, AVal.str [97], AVal.str [], AVal.list true 0 fun (x : Nat) => [], AVal.list true 0 fun (x : Nat) => [], AVal.list true 0 fun (x : Nat) => [], AVal.int .i64 8, AVal.int .i64 0, AVal.int .i64 0]].getD i [], AVal.list true 0 fun (x : Nat) => [], AVal.int .i64 0, AVal.int .i64 0, AVal.int .i64 0]].getD i []]].getD i []) && true && true && true then k (Out.ret (AVal.tuple [AVal.list false 1 fun (i : Nat) => [[AVal.str [], AVal.int .i64 0, AVal.str [], AVal.str [], AVal.int .u8 0, AVal.str [], AVal.str [], AVal.int .i64 0, AVal.str [], AVal.int .i64 0, AVal.str [], AVal.str [], AVal.int .u8 0, AVal.str [], AVal.str [], AVal.int .i64 0, AVal.str [], AVal.list false 1 fun (i : Nat) => [[AVal.int .i64 3, AVal.str [], AVal.str [], AVal.list false 1 fun (i : Nat) => [[AVal.str [], AVal.list true 1 fun (i : Nat) => [[AVal.int .i64 1, AVal.str [], AVal.list true 0 fun (x : Nat) => [], AVal.int .i64 0, AVal.str []]].getD i []]].getD i [], AVal.list false 1 fun (i : Nat) => [[AVal.int .i64 1, AVal.str [97], AVal.str [], AVal.list true 0 fun (x : Nat) => [], AVal.list true 0 fun (x : Nat) => [], AVal.list true 0 fun (x : Nat) => [], AVal.int .i64 8, AVal.int .i64 0, AVal.int .i64 0]].getD i [], AVal.list false 0 fun (i : Nat) => [], AVal.int .i64 0, AVal.int .i64 0, AVal.int .i64 0]].getD i []]].getD i [], AVal.int .i64 0, AVal.int .i64 0]) []) else none) := by kernel_rfl
end Go.Mu
namespace Go.Mu
open Go Go.Proofs
theorem lay31_ok : lay31.OK Tryz.prog := layT_ok.addF (constTold_ok parse31_ok)
abbrev units31 : AVal := AVal.list false 1 fun (i : Nat) =>
 [[AVal.str [], AVal.int .i64 0, AVal.str [], AVal.str [], AVal.int .u8 0, AVal.str [],
  AVal.str [], AVal.int .i64 0, AVal.str [], AVal.int .i64 0, AVal.str [], AVal.str [],
  AVal.int .u8 0, AVal.str [], AVal.str [], AVal.int .i64 0, AVal.str [],
  AVal.list false 1 fun (i : Nat) =>
   [[AVal.int .i64 3, AVal.str [], AVal.str [],
    AVal.list false 1 fun (i : Nat) =>
     [[AVal.str [],
      AVal.list true 1 fun (i : Nat) =>
       [[AVal.int .i64 1, AVal.str [], AVal.list true 0 fun (x : Nat) => [],
        AVal.int .i64 0, AVal.str []]].getD
         i []]].getD
       i [],
    AVal.list false 1 fun (i : Nat) =>
     [[AVal.int .i64 1, AVal.str [97], AVal.str [],
      AVal.list true 0 fun (x : Nat) => [], AVal.list true 0 fun (x : Nat) => [],
      AVal.list true 0 fun (x : Nat) => [], AVal.int .i64 8,
      AVal.int .i64 0, AVal.int .i64 0]].getD
       i [],
    AVal.list false 0 fun (i : Nat) => [], AVal.int .i64 0, AVal.int .i64 0,
    AVal.int .i64 0]].getD
     i []]].getD
   i []
theorem comp31_ok : CallOK Tryz.prog 30 [.str ex31] [] (.ret (.tuple [units31, .int .i64 0, .int .i64 0]) []) := callOK_of (lay31_ok.hokF 60 40) (fun k => (comp31_fun k).trans (by rw [sameV_refl]; rfl))
noncomputable def onceTold (xs : List AVal) (H : Heap) (o : Out) : FSp := mkF (fun _ _ => ()) (fun _ => True) (fun _ => xs) (fun _ => H) (fun _ k => k o)
theorem onceTold_ok {f : FuncId} {xs : List AVal} {H : Heap} {o : Out} (h : CallOK Tryz.prog f xs H o) : ∀ ys H' k out, onceTold xs H o ys H' k = some out → ∃ o, CallOK Tryz.prog f ys H' o ∧ k o = some out := mkF_ok fun a _ => ⟨_, fun k => rfl, h⟩
abbrev vAr : AVal := .agg [.int .i64 3, .int .i64 1, .str [], .list false 0 (fun i => ([] : List (List AVal)).getD i []), nilList]
abbrev exH (U b : AVal) (ar : Obj) : Heap := [.var [.str [], .int .i64 0, .int .i64 0, nilList, nilList, .int .i64 0], .var [.nilptr, b, U, .int .i64 65536, .int .i64 0, .int .i64 65536, .int .i64 0, nilList, nilList], .note 107 9, ar, .note bT 0, .var [.ptr (.hp 1) 0]]
theorem ent31_fun (k : Out → Ans) : iAll Tryz.prog (Mu.hd layT.tab) (fun g => (layT.tab g).isSome) layT.fhs 60 40 47 [.ptr (.hp 1) 0, .int .i64 0, .int .i64 0, vAr] (exH units31 (.own 3 0 0 1 false) (.arr 1 [] 1)) k = (
 k (Out.ret (AVal.tuple []) [Obj.var [AVal.str [], AVal.int .i64 0, AVal.int .i64 0, AVal.list true 0 fun (x : Nat) => [], AVal.list true 0 fun (x : Nat) => [], AVal.int .i64 0], Obj.var [AVal.ptr (Oid.hp 1) 0, AVal.own 3 0 1 2 false, units31, AVal.int .i64 65536, AVal.int .i64 2, AVal.int .i64 65536, AVal.int .i64 0, AVal.own 6 0 1 0 false, AVal.list true 0 fun (x : Nat) => []], Obj.note 107 9, Obj.arr 1 [[AVal.int .u8 97]] 2, Obj.note 5 0, Obj.var [AVal.ptr (Oid.hp 1) 0], Obj.arr 1 [[AVal.int .i64 1]] 0])) := by kernel_rfl
end Go.Mu
namespace Go.Mu
open Go Go.Proofs
abbrev exO (U b tr hl : AVal) (ar : Obj) (G : Heap) : Heap := [.var [.str [], .int .i64 0, .int .i64 0, nilList, nilList, .int .i64 0], .var [.ptr (.hp 1) 0, b, U, .int .i64 65536, .int .i64 2, .int .i64 65536, .int .i64 0, tr, hl], .note 107 9, ar, .note bT 0, .var [.ptr (.hp 1) 0]] ++ G
abbrev exO31 : Heap := exO units31 (.own 3 0 1 2 false) (.own 6 0 1 0 false) nilList (.arr 1 [[.int .u8 97]] 2) [.arr 1 [[.int .i64 1]] 0]
noncomputable def layR31 : Lay := (layT.addF 30 (constTold ex31 (.tuple [units31, .int .i64 0, .int .i64 0]))).addF 47 (onceTold [.ptr (.hp 1) 0, .int .i64 0, .int .i64 0, vAr] (exH units31 nilList (.arr 1 [] 0)) (.ret (.tuple []) exO31))
theorem al31_fun (k : Out → Ans) : iAll Tryz.prog (Mu.hd layR31.tab) (fun g => (layR31.tab g).isSome) layR31.fhs 60 30 10 [] [] k = (
 bif tst (True ∧ SubL [AVal.ptr (Oid.hp 1) 0, AVal.int .i64 0, AVal.int .i64 0, AVal.agg [AVal.int .i64 3, AVal.int .i64 1, AVal.str [], AVal.list false 0 fun (i : Nat) => [], AVal.list true 0 fun (x : Nat) => []]] [AVal.ptr (Oid.hp 1) 0, AVal.int .i64 0, AVal.int .i64 0, vAr] ∧ [Obj.var [AVal.str [], AVal.int .i64 0, AVal.int .i64 0, AVal.list true 0 fun (x : Nat) => [], AVal.list true 0 fun (x : Nat) => [], AVal.int .i64 0], Obj.var [AVal.nilptr, AVal.list true 0 fun (x : Nat) => [], AVal.list false 1 fun (i : Nat) => [[AVal.str [], AVal.int .i64 0, AVal.str [], AVal.str [], AVal.int .u8 0, AVal.str [], AVal.str [], AVal.int .i64 0, AVal.str [], AVal.int .i64 0, AVal.str [], AVal.str [], AVal.int .u8 0, AVal.str [], AVal.str [], AVal.int .i64 0, AVal.str [], AVal.list false 1 fun (i : Nat) => [[AVal.int .i64 3, AVal.str [], AVal.str [], AVal.list false 1 fun (i : Nat) => [[AVal.str [], AVal.list true 1 fun (i : Nat) => [[AVal.int .i64 1, AVal.str [], AVal.list true 0 fun (x : Nat) => [], AVal.int .i64 0, AVal.str []]].getD i []]].getD i [], AVal.list false 1 fun (i : Nat) => [[AVal.int .i64 1, AVal.str [97], AVal.str [], AVal.list true 0 fun (x : Nat) => [], AVal.list true 0 fun (x : Nat) => [], AVal.list true 0 fun (x : Nat) => [], AVal.int .i64 8, AVal.int .i64 0, AVal.int .i64 0]].getD i [], AVal.list false 0 fun (i : Nat) => [], AVal.int .i64 0, AVal.int .i64 0, AVal.int .i64 0]].getD i []]].getD i [], AVal.int .i64 65536, AVal.int .i64 0, AVal.int .i64 65536, AVal.int .i64 0, AVal.list true 0 fun (x : Nat) => [], AVal.list true 0 fun (x : Nat) => []], Obj.note 107 9, Obj.arr 1 [] 0, Obj.note 5 0, Obj.var [AVal.ptr (Oid.hp 1) 0]] = exH units31 (AVal.list true 0 fun (x : Nat) => []) (Obj.arr 1 [] 0)) then bif tst (2 = 2 ∧ 5 = 5 ∧ 1 = 1 ∧ [[AVal.int .u8 97]] = [[AVal.int .u8 97]] ∧ 0 < 1 ∧ 1 ≤ 1099511627776) then bif sameV (AVal.list true 0 fun (x : Nat) => []) (AVal.list true 0 fun (x : Nat) => []) && true && true && true then bif tst ((1 ≤ 140737488355328 ∧ 1 ≤ 140737488355328) ∧ SubL [AVal.list false 1 fun (i : Nat) => [[AVal.str (printM 1)]].getD (0 + i) [], AVal.str [32]] [AVal.list false 1 fun i => [AVal.str ((decL decS (AVal.list false 1 fun (i : Nat) => [[AVal.str (printM 1)]].getD (0 + i) [])).getD i [])], AVal.str [32]] ∧ ([] : Heap) = []) then k (Out.ret (AVal.bool true) []) else none else none else none else none) := by kernel_rfl
end Go.Mu
namespace Go.Mu
open Go Go.Proofs
theorem ent31_ok : CallOK Tryz.prog 47 [.ptr (.hp 1) 0, .int .i64 0, .int .i64 0, vAr] (exH units31 nilList (.arr 1 [] 0)) (.ret (.tuple []) exO31) := by
 refine relAt_ok (i := 1) (c := 1) (j := 3) ?_
 have e : relAt 1 1 3 (exH units31 nilList (.arr 1 [] 0)) = exH units31 (.own 3 0 0 1 false) (.arr 1 [] 1) := by kernel_rfl
 rw [e]
 exact callOK_of (layT_ok.hokF 60 40) (fun k => ent31_fun k)
theorem layR31_ok : layR31.OK Tryz.prog := (layT_ok.addF (constTold_ok comp31_ok)).addF (onceTold_ok ent31_ok)
theorem alive31_ok : CallOK Tryz.prog 10 [] [] (.ret (.bool true) []) := by
 refine callOK_of (layR31_ok.hokF 60 30) (fun k => (al31_fun k).trans ?_)
 refine cT (tst_true ⟨trivial, .refl _, rfl⟩) ?_
 refine cT (tst_true ⟨rfl, rfl, rfl, rfl, by decide, by decide⟩) ?_
 refine cT (show (sameV _ _ && true && true && true) = true by rw [sameV_refl]; rfl) ?_
 refine (congrArg (fun c => cond c _ none) (tst_true ⟨⟨by decide, by decide⟩, ?_, rfl⟩)).trans (cond_true _ _)
 refine .cons (Sub.list (fun h => h) (fun i hi => ?_)) (.refl _)
 obtain rfl : i = 0 := by omega
 exact .refl _
end Go.Mu
namespace Go.Mu
open Go
variable {H : Type}
mutual
theorem size_bulk : ∀ d : DataW H, (tOf d).size ≤ Go.Proofs.YtchpbmjhpeghoaaGreatDoor.Rows.uptoBulk d
 | .lit (.bool _) => by simp [tOf, T.size, Go.Proofs.YtchpbmjhpeghoaaGreatDoor.Rows.uptoBulk]
 | .lit (.int _ _) => by simp [tOf, T.size, Go.Proofs.YtchpbmjhpeghoaaGreatDoor.Rows.uptoBulk]
 | .lit (.string _) => by simp [tOf, T.size, Go.Proofs.YtchpbmjhpeghoaaGreatDoor.Rows.uptoBulk]
 | .lit (.float _ _) => by simp [tOf, T.size, T.sizes, Go.Proofs.YtchpbmjhpeghoaaGreatDoor.Rows.uptoBulk]
 | .lit .nil => by simp [tOf, T.size, T.sizes, Go.Proofs.YtchpbmjhpeghoaaGreatDoor.Rows.uptoBulk]
 | .nil => by simp [tOf, T.size, T.sizes, Go.Proofs.YtchpbmjhpeghoaaGreatDoor.Rows.uptoBulk]
 | .ptr d => by simp [tOf, T.size, T.sizes, Go.Proofs.YtchpbmjhpeghoaaGreatDoor.Rows.uptoBulk]
 | .slice es sp => by
  have := size_bulks es
  simp only [tOf, T.size, Go.Proofs.YtchpbmjhpeghoaaGreatDoor.Rows.uptoBulk]
  omega
 | .agg ps => by
  have := size_bulks ps
  simp only [tOf, T.size, Go.Proofs.YtchpbmjhpeghoaaGreatDoor.Rows.uptoBulk]
  omega
 | .iface _ d => by simp [tOf, T.size, T.sizes, Go.Proofs.YtchpbmjhpeghoaaGreatDoor.Rows.uptoBulk]
 | .map _ => by simp [tOf, T.size, T.sizes, Go.Proofs.YtchpbmjhpeghoaaGreatDoor.Rows.uptoBulk]
 | .held _ => by simp [tOf, T.size, T.sizes, Go.Proofs.YtchpbmjhpeghoaaGreatDoor.Rows.uptoBulk]
theorem size_bulks : ∀ ds : List (DataW H), T.sizes (tOfs ds) ≤ Go.Proofs.YtchpbmjhpeghoaaGreatDoor.Rows.uptoBulkAll ds
 | [] => by simp [tOfs, T.sizes, Go.Proofs.YtchpbmjhpeghoaaGreatDoor.Rows.uptoBulkAll]
 | d :: ds => by
  have := size_bulk d
  have := size_bulks ds
  simp only [tOfs, T.sizes, Go.Proofs.YtchpbmjhpeghoaaGreatDoor.Rows.uptoBulkAll]
  omega
end
theorem small_size {ds : List (DataW H)} (h : Go.Proofs.YtchpbmjhpeghoaaGreatDoor.Rows.uptoSmall H ds = true) : T.sizes (tOfs ds) ≤ 1048576 := by
 unfold Go.Proofs.YtchpbmjhpeghoaaGreatDoor.Rows.uptoSmall at h
 have := size_bulks ds
 have := of_decide_eq_true h
 omega
end Go.Mu
namespace Go.Mu
open Go Go.Proofs
theorem nodes_T (full : Bool) (es : List T) : nodes (.list full es.length (T.encAt es)) = es.map (fun e => decNd e.enc) := by
 simp only [nodes, decL]
 apply List.ext_getElem
 · simp
 · intro i h1 h2
   simp only [List.getElem_map, List.getElem_range]
   have hi : i < es.length := by simpa using h2
   rw [T.encAt_get es i es[i] (List.getElem?_eq_getElem hi)]
theorem node_T {t : T} (h : HasT Tryz.prog 44 t) : ∃ nd, t.enc = encNd nd ∧ ∃ bf b ef el, nd.body = .list bf b.length (T.encAt b) ∧ nd.els = .list ef el.length (T.encAt el) ∧ (∀ y ∈ b, HasT Tryz.prog 44 y) ∧ (∀ y ∈ el, HasT Tryz.prog 44 y) ∧ T.sizes b + T.sizes el + 1 ≤ t.size := by
 obtain ⟨parts, rfl, hp⟩ := h.struct_inv Tryz.underlying44
 obtain ⟨x0, xs, rfl, h0, hp⟩ := HasTs.cons_inv hp
 obtain ⟨x1, xs, rfl, h1, hp⟩ := HasTs.cons_inv hp
 obtain ⟨x2, xs, rfl, h2, hp⟩ := HasTs.cons_inv hp
 obtain ⟨x3, xs, rfl, h3, hp⟩ := HasTs.cons_inv hp
 obtain ⟨x4, xs, rfl, h4, hp⟩ := HasTs.cons_inv hp
 obtain ⟨x5, xs, rfl, h5, hp⟩ := HasTs.cons_inv hp
 obtain ⟨x6, xs, rfl, h6, hp⟩ := HasTs.cons_inv hp
 obtain ⟨x7, xs, rfl, h7, hp⟩ := HasTs.cons_inv hp
 obtain ⟨x8, xs, rfl, h8, hp⟩ := HasTs.cons_inv hp
 obtain rfl := HasTs.nil_inv hp
 obtain ⟨k, rfl, _⟩ := h0.int_inv (k := .i64) (by kernel_rfl)
 obtain ⟨tx, rfl⟩ := h1.str_inv (by kernel_rfl)
 obtain ⟨nm, rfl⟩ := h2.str_inv (by kernel_rfl)
 obtain ⟨pf, p, rfl, _⟩ := h3.slice_inv (e := 259) (by kernel_rfl)
 obtain ⟨bf, b, rfl, hb⟩ := h4.slice_inv (e := 44) (by kernel_rfl)
 obtain ⟨ef, el, rfl, he⟩ := h5.slice_inv (e := 44) (by kernel_rfl)
 obtain ⟨a, rfl, _⟩ := h6.int_inv (k := .i64) (by kernel_rfl)
 obtain ⟨es, rfl, _⟩ := h7.int_inv (k := .i64) (by kernel_rfl)
 obtain ⟨u, rfl, _⟩ := h8.int_inv (k := .i64) (by kernel_rfl)
 refine ⟨⟨k, tx, nm, pf, p.length, T.encAt p, bf, b.length, T.encAt b, ef, el.length, T.encAt el, a, es, u⟩, ?_, bf, b, ef, el, rfl, rfl, hb, he, ?_⟩
 · simp only [T.enc, T.encAll, List.append_nil, List.singleton_append, List.cons_append, List.nil_append, encNd]
 · simp only [T.size, T.sizes]; omega
theorem sum_T {f : T → Nat} : ∀ es : List T, (∀ e ∈ es, f e ≤ e.size) → (es.map f).sum ≤ T.sizes es
 | [], _ => by simp [T.sizes]
 | e :: es, h => by
  have h1 := h e (by simp)
  have h2 := sum_T es (fun x hx => h x (by simp [hx]))
  simp only [List.map_cons, List.sum_cons, T.sizes]
  omega
theorem wfV_T : ∀ (d : Nat) (full : Bool) (es : List T), (∀ y ∈ es, HasT Tryz.prog 44 y) → T.sizes es < d → T.sizes es ≤ 1048576 → wfV d (.list full es.length (T.encAt es)) ∧ cntV d (.list full es.length (T.encAt es)) ≤ T.sizes es
 | 0, _, _, _, h, _ => absurd h (Nat.not_lt_zero _)
 | d + 1, full, es, ht, hs, hb => by
  have key : ∀ e ∈ es, wfNd e.enc = true ∧ (wfV d (decNd e.enc).body ∧ wfV d (decNd e.enc).els) ∧ 1 + cntV d (decNd e.enc).body + cntV d (decNd e.enc).els ≤ e.size := fun e he => by
   obtain ⟨nd, e1, bf, b, ef, el, e2, e3, h1, h2, h3⟩ := node_T (ht e he)
   have hsz := T.size_mem es e he
   have g1 := wfV_T d bf b h1 (by omega) (by omega)
   have g2 := wfV_T d ef el h2 (by omega) (by omega)
   rw [e1, decNd_enc, e2, e3]
   exact ⟨wfNd_enc nd, ⟨g1.1, g2.1⟩, by have := g1.2; have := g2.2; omega⟩
  have hl := T.length_sizes es
  refine ⟨⟨?_, ?_, fun n hn => ?_⟩, ?_⟩
  · simp only [wfL, List.all_eq_true, List.mem_range]
    intro i hi
    rw [T.encAt_get es i es[i] (List.getElem?_eq_getElem hi)]
    exact (key _ (List.getElem_mem hi)).1
  · show es.length ≤ _
    omega
  · rw [nodes_T, List.mem_map] at hn
    obtain ⟨e, he, rfl⟩ := hn
    exact (key e he).2.1
  · unfold cntV
    rw [nodes_T, List.map_map]
    exact sum_T es (fun e he => (key e he).2.2)
end Go.Mu
namespace Go.Proofs
open Go.Shelf
theorem Tryz.uRen_260 : Lays.n260 Tryz.prog Tryz.uRen := { Tryz.uRen_197 with }
theorem Tryz.u8Extra : U8Extra Tryz.prog Tryz.uRen where
 n3 := by kernel_rfl
 n4 := by kernel_rfl
 y3 := by kernel_rfl
 y4 := by kernel_rfl
 c5 := by kernel_rfl
 c119 := by kernel_rfl
 c138 := by kernel_rfl
end Go.Proofs
namespace Go.Mu
open Go Go.Proofs
theorem tabIs_of_reads {P : Program} {W : World} {name : String} {k : IntKind} {zs : List Int} {g : Nat} {t e : TypeId} {n : Nat}
 (hg : P.globalNamed name = some g) (hty : (P.globals[g]?).map (·.type) = some t) (ht : P.underlying t = some (.array n e)) (he : P.underlying e = some (.int k)) (hce : P.cellsOf e = 1) (hct : P.cellsOf t = n)
 (h : Lib.VarReads P W name (Lib.tabData k zs)) : Lib.TabIs P W name k zs := by
 obtain ⟨g', t', cs, fuel, p, hg', ht', hvar, hd⟩ := h
 obtain rfl := Option.some.inj (hg.symm.trans hg')
 obtain rfl := Option.some.inj (hty.symm.trans ht')
 unfold Lib.TabIs
 rw [hvar, ← Lib.cells_of_tab ht he hce hct hd]
theorem asc_rep {W : World} {imm : Nat → Prop} (h : Lib.TabIs Tryz.prog W "strings.asciiSpace" .u8 Lib.asciiSpaceTab) (hi : imm 3) : RepP W imm (.rptr (Lib.asciiSpaceTab.map (AVal.int .u8))) (.pointer (some ⟨3, 0, none⟩)) := by
 refine .rptr _ _ 0 (fun j => .int .u8 (Lib.asciiSpaceTab.getD j 0)) hi (fun j hj => ?_) (fun j hj => ?_)
 · rw [List.length_map] at hj
   rw [Nat.zero_add]
   exact ⟨h.cell (by kernel_rfl) j hj, rfl⟩
 · rw [List.length_map] at hj
   rw [List.getD_eq_getElem?_getD, List.getElem?_map, List.getElem?_eq_getElem hj, List.getD_eq_getElem?_getD, List.getElem?_eq_getElem hj]
   exact .int _ _
theorem asc_reads {W : World} {laid : List (String × DataW Unit)} (hl : laidMet Tryz.prog laid W) (h3 : ("strings.asciiSpace", Lib.tabData .u8 Lib.asciiSpaceTab) ∈ laid) : Lib.TabIs Tryz.prog W "strings.asciiSpace" .u8 Lib.asciiSpaceTab :=
 tabIs_of_reads (g := 3) (by kernel_rfl) (by kernel_rfl) (t := 358) (e := 5) (n := 256) (by kernel_rfl) (by kernel_rfl) (by kernel_rfl) (by kernel_rfl) (Lib.laidMet.reads hl h3)
theorem asc_old {W : World} (h : Lib.TabIs Tryz.prog W "strings.asciiSpace" .u8 Lib.asciiSpaceTab) : oldB W 3 := by
 have h : W.cell? ⟨3, 0, none⟩ = some (.int .u8 (Lib.asciiSpaceTab.getD 0 0)) := h.cell (by kernel_rfl) 0 (by rw [Lib.asciiSpaceTab_length]; omega)
 show 3 < W.heap.size
 unfold World.cell? at h
 by_cases hlt : 3 < W.heap.size
 · exact hlt
 · have hle : W.heap.size ≤ (Addr.mk 3 0 none).block := by show W.heap.size ≤ 3; omega
   rw [Array.getElem?_eq_none hle] at h
   simp at h
theorem tabs_glob {W : World} {laid : List (String × DataW Unit)} (hl : laidMet Tryz.prog laid W) (h1 : ("unicode/utf8.first", Lib.firstData) ∈ laid) (h2 : ("unicode/utf8.acceptRanges", Lib.acceptData) ∈ laid) (h3 : ("strings.asciiSpace", Lib.tabData .u8 Lib.asciiSpaceTab) ∈ laid) : ∀ g cells, gvals g = some cells → RepP W (oldB W) (.rptr cells) (.pointer (some ⟨g, 0, none⟩)) := by
 have hT : Lib.Utf8Tabs 1 2 W := utf8Tabs_of_reads Tryz.uRen_260 Tryz.u8Extra (Lib.laidMet.reads hl h1) (Lib.laidMet.reads hl h2)
 obtain ⟨t1, t2⟩ := hT
 have lt : ∀ {g j v}, W.cell? ⟨g, j, none⟩ = some v → oldB W g := fun {g j v} h => by
  show g < W.heap.size
  unfold World.cell? at h
  by_cases hlt : g < W.heap.size
  · exact hlt
  · have hle : W.heap.size ≤ (Addr.mk g j none).block := by show W.heap.size ≤ g; omega
    rw [Array.getElem?_eq_none hle] at h
    simp at h
 intro g cells hg
 unfold gvals at hg
 split at hg
 · rename_i e
   have e : g = 1 := by simpa using e
   subst e
   simp only [Option.some.injEq] at hg
   subst hg
   refine .rptr _ _ 0 (fun j => .int .u8 (Lib.firstT j)) (lt (t1 0 (by omega))) (fun j hj => ?_) (fun j hj => ?_)
   · simp only [List.length_map, List.length_range] at hj
     rw [Nat.zero_add]
     exact ⟨t1 j hj, rfl⟩
   · simp only [List.length_map, List.length_range] at hj
     rw [List.getD_eq_getElem?_getD, List.getElem?_map, List.getElem?_range hj]
     exact .int _ _
 · split at hg
   · rename_i e
     have e : g = 2 := by simpa using e
     subst e
     simp only [Option.some.injEq] at hg
     subst hg
     refine .rptr _ _ 0 (fun j => .int .u8 ((if j % 2 = 0 then Lib.accLo (j / 2) else Lib.accHi (j / 2) : Nat) : Int)) (lt (t2 0 (by omega)).1) (fun j hj => ?_) (fun j hj => ?_)
     · simp only [List.length_map, List.length_range] at hj
       rw [Nat.zero_add]
       refine ⟨?_, rfl⟩
       have h3 := t2 (j / 2) (by omega)
       by_cases hp : j % 2 = 0
       · rw [if_pos hp]
         have : 2 * (j / 2) = j := by omega
         rw [this] at h3
         exact h3.1
       · rw [if_neg hp]
         have : 2 * (j / 2) + 1 = j := by omega
         rw [this] at h3
         exact h3.2
     · simp only [List.length_map, List.length_range] at hj
       rw [List.getD_eq_getElem?_getD, List.getElem?_map, List.getElem?_range hj]
       simp only [Option.map_some, Option.getD_some]
       split <;> exact .int _ _
   · split at hg
     · rename_i e
       have e : g = 3 := by simpa using e
       subst e
       simp only [Option.some.injEq] at hg
       subst hg
       exact asc_rep (asc_reads hl h3) (asc_old (asc_reads hl h3))
     · cases hg
end Go.Mu
