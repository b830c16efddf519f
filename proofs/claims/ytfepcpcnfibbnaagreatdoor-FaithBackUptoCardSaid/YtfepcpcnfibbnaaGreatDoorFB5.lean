/-
  Lemmas on the given program (part 5).
-/
import Derived.Test.YtfepcpcnfibbnaaGreatDoorFB4
import Derived.Test.YtfepcpcnfibbnaaGreatDoorRows
import Derived.Lib.LaidU8
set_option linter.unusedVariables false
set_option linter.unusedSimpArgs false
set_option maxRecDepth 100000
namespace Go.Mu
open Go Go.Proofs
noncomputable def layQ1 (R : List UInt8 → Int → Bool) : Lay := ((Lay.nil.addF 45 (octTold rLtr)).addF 46 (octTold rDgt)).addF 43 (hasTold R)
theorem layQ1_ok : (layQ1 anyI).OK Tryz.prog := ((Lay.nil_ok.addF (octTold_ok rLetter_fun)).addF (octTold_ok rDigit_fun)).addF hasTold_ok
/- run -/
structure RuA where
  s : List UInt8
  at_ : Nat
  hex : Bool
  n : Nat
  H : Heap
noncomputable def ruSp (R : Bool → List UInt8 → Nat) : LSp := mkL (fun vs _ H => RuA.mk (aS vs 0) (aI vs 1).toNat (aB vs 2) (aI vs 3).toNat H) (fun a => a.at_ + a.n ≤ a.s.length ∧ a.s.length ≤ 1099511627776) (fun a => [.str a.s, .int .i64 (a.at_ : Nat), .bool a.hex, .int .i64 (a.n : Nat)]) (fun _ => []) (fun a => a.H)
  (fun a k => k (.exit 0) [.int .i64 ((a.n + R a.hex (a.s.drop (a.at_ + a.n)) : Nat) : Int)] [] a.H)
noncomputable def ruFH (R : Bool → List UInt8 → Nat) : FH := .of [(2, loopSpec 36 [0,1,2,7] [] [7] [] (ruSp R))]
theorem ru_step (R : Bool → List UInt8 → Nat) (A : List UInt8 → Int → Bool) (s : List UInt8) (at_ n : Int) (hex : Bool) (H : Heap) (D : List (FuncId × List AVal)) (k : Kont) : lturn Tryz.prog (layQ1 A) (ruFH R) 80 2 [0,1,2,7] [] [7] [] (stL 36 [0,1,2,7] [.str s, .int .i64 at_, .bool hex, .int .i64 n] [] [] H D) k = (
 let n0 : Int := IntKind.i64.wrap (at_ + n);
 let c1 : Bool := decide (n0 < (↑s.length : Int));
 let c2 : Bool := decide (0 ≤ n0) && c1;
 let n3 : Int := (↑(s.getD n0.toNat 0).toNat : Int);
 let c4 : Bool := rDgt n3;
  bif c2 || !c1 then
  bif c2 || !(c1 && !c4 && hex) then
  bif
  bif c1 then
  bif c4 then true else bif hex then A [97, 98, 99, 100, 101, 102, 65, 66, 67, 68, 69, 70] n3 else false
  else false then
  k AExit.normal
  (stL 36 [0, 1, 2, 7]
  [AVal.str s, AVal.int IntKind.i64 at_, AVal.bool hex, AVal.int IntKind.i64 (IntKind.i64.wrap (n + 1))] [] [] H
  D)
  else k (AExit.exit 0) (stL 36 [7] [AVal.int IntKind.i64 n] [] [] H D)
  else none
  else none) := by kernel_rfl
noncomputable def layQ2 (R : Bool → List UInt8 → Nat) : Lay := (layQ1 anyI).addL 80 (ruFH R)
theorem ru_fun (R : Bool → List UInt8 → Nat) (s : List UInt8) (at_ : Int) (hex : Bool) (k : Out → Ans) : iFun Tryz.prog ((layQ2 R).hd Tryz.prog) (layQ2 R).fhs 0 80 [.str s, .int .i64 at_, .bool hex] [] k = (
 let m0 : Nat := at_.toNat + Int.toNat 0;
  bif
  tst
  ((m0 ≤ s.length ∧ s.length ≤ 1099511627776) ∧
  SubTL [AVal.str s, AVal.int IntKind.i64 at_, AVal.bool hex, AVal.int IntKind.i64 0]
  [AVal.str s, AVal.int IntKind.i64 (↑at_.toNat : Int), AVal.bool hex,
  AVal.int IntKind.i64 (↑(Int.toNat 0) : Int)] ∧
  ([] : List (List AVal)) = [] ∧ ([] : Heap) = []) then
  k (Out.ret (AVal.int IntKind.i64 (↑(Int.toNat 0 + R hex (List.drop m0 s)) : Int)) [])
  else none) := by kernel_rfl
/- Unhex -/
structure UqA where
  s : List UInt8
  n : Int
  i : Nat
  H : Heap
structure NqA where
  s : List UInt8
  b : Int
  n : Int
  i : Nat
  H : Heap
/- One -/
def runTold' (R : Bool → List UInt8 → Nat) : FSp := mkFS [.s, .i .i64, .b] (fun xs => decide ((aS xs 0).length ≤ 1099511627776 ∧ 0 ≤ aI xs 1 ∧ aI xs 1 ≤ (aS xs 0).length)) (fun xs k => k (.ret (.int .i64 (R (aB xs 2) ((aS xs 0).drop (aI xs 1).toNat) : Nat)) []))
structure OqA where
  s : List UInt8
  i : Nat
  H : Heap
end Go.Mu
set_option linter.unusedVariables false
set_option linter.unusedSimpArgs false
set_option maxRecDepth 100000
namespace Go.Mu
open Go Go.Proofs
/- run -/
theorem runQ_cons (hex : Bool) (c : UInt8) (t : List UInt8) : runQ hex (c :: t) = bif dgt hex c then runQ hex t + 1 else 0 := by
  unfold runQ
  rw [List.takeWhile_cons]
  cases dgt hex c <;> rfl
theorem ru_runs (s : List UInt8) (hs : s.length ≤ 1099511627776) (at_ : Nat) (hex : Bool) (H : Heap) (R : Bool → List UInt8 → Nat) : ∀ (m n : Nat), s.length - (at_ + n) ≤ m → at_ + n ≤ s.length →
    LoopRuns (lturn Tryz.prog (layQ1 anyI) (ruFH R) 80 2 [0,1,2,7] [] [7] []) 36 [0,1,2,7] [] [7] [] [.str s, .int .i64 (at_ : Nat), .bool hex, .int .i64 (n : Nat)] [] H (.exit 0) [.int .i64 ((n + runQ hex (s.drop (at_ + n)) : Nat) : Int)] [] H := by
  intro m
  induction m with
  | zero =>
    intro n hm hi
    have e : s.drop (at_ + n) = [] := List.drop_eq_nil_of_le (by omega)
    have e1 : IntKind.i64.wrap ((at_ : Int) + (n : Int)) = ((at_ + n : Nat) : Int) := by rw [wrap_of (by omega) (by omega)]; omega
    rw [e]
    refine .stop (by simp) (fun D k => (ru_step R anyI s at_ n hex H D k).trans ?_)
    simp only [e1, dF (show ¬ ((at_ + n : Nat) : Int) < s.length by omega), Bool.and_false, Bool.false_and, Bool.not_false, Bool.or_true, cond_true, cond_false]
    rfl
  | succ m ih =>
    intro n hm hi
    have e1 : IntKind.i64.wrap ((at_ : Int) + (n : Int)) = ((at_ + n : Nat) : Int) := by rw [wrap_of (by omega) (by omega)]; omega
    have e2 : IntKind.i64.wrap ((n : Int) + 1) = ((n + 1 : Nat) : Int) := wrap_add1 (by omega)
    have key := fun D k => ru_step R anyI s at_ n hex H D k
    by_cases hlt : at_ + n < s.length
    · have ed := drop_cons_of s (at_ + n) 0 hlt
      simp only [e1, e2, dT (show ((at_ + n : Nat) : Int) < s.length by omega), dT (show (0 : Int) ≤ ((at_ + n : Nat) : Int) by omega), Int.toNat_natCast, rDgt_eq, Bool.and_self, Bool.true_or, cond_true] at key
      have hg : (bif dig (s.getD (at_ + n) 0) then true else bif hex then anyI [97, 98, 99, 100, 101, 102, 65, 66, 67, 68, 69, 70] ((s.getD (at_ + n) 0).toNat : Int) else false) = dgt hex (s.getD (at_ + n) 0) := by
        unfold dgt hexc
        rw [bif_or, bif_and]
      simp only [hg] at key
      rw [ed, runQ_cons]
      cases hc : dgt hex (s.getD (at_ + n) 0) with
      | true =>
        simp only [hc, cond_true] at key ⊢
        have := ih (n + 1) (by omega) (by omega)
        rw [show n + (runQ hex (s.drop (at_ + n + 1)) + 1) = n + 1 + runQ hex (s.drop (at_ + (n + 1))) by rw [Nat.add_assoc at_]; omega]
        exact .step key this
      | false =>
        simp only [hc, cond_false] at key ⊢
        exact .stop (by simp) key
    · have e : s.drop (at_ + n) = [] := List.drop_eq_nil_of_le (by omega)
      rw [e]
      refine .stop (by simp) (fun D k => (ru_step R anyI s at_ n hex H D k).trans ?_)
      simp only [e1, dF (show ¬ ((at_ + n : Nat) : Int) < s.length by omega), Bool.and_false, Bool.false_and, Bool.not_false, Bool.or_true, cond_true, cond_false]
      rfl
theorem ruSp_ok : SpOK (lturn Tryz.prog (layQ1 anyI) (ruFH runQ) 80 2 [0,1,2,7] [] [7] []) 36 [0,1,2,7] [] [7] [] (ruSp runQ) := mkL_ok fun a h => ⟨_, _, _, _, fun k => rfl, ru_runs a.s h.2 a.at_ a.hex a.H runQ _ a.n (Nat.le_refl _) h.1⟩
theorem layQ2_ok : (layQ2 runQ).OK Tryz.prog := layQ1_ok.loop1 (id := 2) (by kernel_rfl) (by kernel_rfl) (by kernel_rfl) ruSp_ok
theorem runTold_ok' : ∀ xs H k out, runTold' runQ xs H k = some out → ∃ o, CallOK Tryz.prog 80 xs H o ∧ k o = some out := mkFS_ok fun ys xs e h => by
  obtain ⟨s, n, b, rfl⟩ : ∃ s n b, xs = [.str s, .int .i64 n, .bool b] := ⟨_, _, _, e⟩
  have h2 : s.length ≤ 1099511627776 ∧ 0 ≤ n ∧ n ≤ s.length := of_decide_eq_true h
  obtain ⟨i, rfl⟩ : ∃ i : Nat, n = i := ⟨n.toNat, by omega⟩
  refine ⟨_, fun k => rfl, layQ2_ok.callF (G := []) rfl (fun k => (ru_fun runQ s i b k).trans ?_)⟩
  refine (congrArg (fun c => cond c _ none) (tst_true ⟨⟨by show i + 0 ≤ s.length; omega, h2.1⟩, .refl _, rfl, rfl⟩)).trans ((cond_true _ _).trans ?_)
  show k (.ret (.int .i64 ((0 + runQ b (s.drop (i + 0)) : Nat) : Int)) []) = _
  rw [Nat.zero_add]; rfl
end Go.Mu
set_option linter.unusedVariables false
set_option linter.unusedSimpArgs false
set_option maxRecDepth 100000
namespace Go.Mu
open Go Go.Proofs
end Go.Mu
set_option linter.unusedVariables false
set_option linter.unusedSimpArgs false
set_option maxRecDepth 100000
namespace Go.Mu
open Go Go.Proofs
/- Quiet -/
structure QsA where
  s : List UInt8
  i : Nat
  H : Heap
/- Find -/
structure FiA where
  s : List UInt8
  p : List UInt8
  i : Nat
  H : Heap
structure StyA where
  s : List UInt8
  t : List UInt8
  i : Nat
  H : Heap
end Go.Mu
set_option linter.unusedVariables false
set_option linter.unusedSimpArgs false
set_option maxRecDepth 100000
namespace Go.Mu
open Go Go.Proofs
end Go.Mu
set_option linter.unusedVariables false
set_option linter.unusedSimpArgs false
set_option maxRecDepth 100000
namespace Go.Mu
open Go Go.Proofs
end Go.Mu
set_option linter.unusedVariables false
set_option linter.unusedSimpArgs false
set_option maxRecDepth 100000
namespace Go.Mu
open Go Go.Proofs
theorem oneP_Q (s : List UInt8) (hs : s.length ≤ 1099511627776) : oneP s = oneQ s := (oneP_W s hs).trans (oneW_Q s)
end Go.Mu
set_option linter.unusedVariables false
set_option linter.unusedSimpArgs false
set_option maxRecDepth 100000
namespace Go.Mu
open Go Go.Proofs
noncomputable def layUh (U : List UInt8 → Int × Int) : Lay := Lay.nil.addF 53 (mkFS [.s] (fun xs => decide ((aS xs 0).length ≤ 1099511627776)) (fun xs k => k (.ret (.tuple [.int .i64 (U (aS xs 0)).1, .int .i64 (U (aS xs 0)).2]) [])))
theorem coded_fun (U : List UInt8 → Int × Int) (s : List UInt8) (i : Int) (k : Out → Ans) : iFun Tryz.prog ((layUh U).hd Tryz.prog) (layUh U).fhs 0 52 [.str s, .int .i64 i] [] k = (
 let n0 : Int := (↑s.length : Int);
 let n1 : Int := IntKind.i64.wrap (i + 1);
 let n2 : Int := IntKind.i64.wrap (i + 3);
 let l3 : List UInt8 := List.drop n1.toNat (List.take n2.toNat s);
  bif decide (0 ≤ i) && decide (i < n0) then
  bif bif (↑(s.getD i.toNat 0).toNat : Int) != 37 then true else decide (IntKind.i64.wrap (n0 - i) < 3) then
  k (Out.ret (AVal.bool false) [])
  else
  bif decide (0 ≤ n1) && decide (n1 ≤ n2) && decide (n2 ≤ n0) then
  bif decide (l3.length ≤ 1099511627776) then k (Out.ret (AVal.bool ((U l3).snd == 0)) []) else none
  else none
  else none) := by kernel_rfl
def cdTold (C : List UInt8 → Bool) : FSp := mkFS [.s, .i .i64] (fun xs => decide (0 ≤ aI xs 1 ∧ aI xs 1 < (aS xs 0).length ∧ (aS xs 0).length ≤ 1099511627776)) (fun xs k => k (.ret (.bool (C ((aS xs 0).drop (aI xs 1).toNat))) []))
noncomputable def layPd0 (U : List UInt8 → Int × Int) (C : List UInt8 → Bool) : Lay := b0_lay ((layUh U).addF 52 (cdTold C))
noncomputable def pdSp (Ok : List UInt8 → Bool) (At : List UInt8 → Int) (E : Bld → List UInt8 → Bld) : LSp := mkL (fun vs _ H => (bld H 0 2, aS vs 0, (aI vs 2).toNat)) (fun x => x.1.can 0 2 ∧ x.1.t.length = 0 ∧ x.2.2 = 0 ∧ x.2.1.length ≤ 1073741824) (fun x => [.str x.2.1, .ptr (.hp 0) 0, .int .i64 x.2.2]) (fun _ => []) (fun x => (b0H.mk x.1).heap)
  (fun x k => cond (Ok x.2.1) (k (.exit 0) [.str x.2.1, .undef, .undef, .undef, .ptr (.hp 0) 0] [] (b0H.mk (E x.1 x.2.1)).heap) (k .ret [.str x.2.1, .str [], .int .i64 (At x.2.1), .int .i64 33, .ptr (.hp 0) 0] [] (b0H.mk (E x.1 x.2.1)).heap))
noncomputable def pdFH (Ok : List UInt8 → Bool) (At : List UInt8 → Int) (E : Bld → List UInt8 → Bld) : FH := { FH.of [(3, loopSpec 48 [0,5,6] [] [0,2,3,4,5] [] (pdSp Ok At E))] with heap := [5], typed := [(5, [(0, bT)])], exact := true }
theorem pd_step (U : List UInt8 → Int × Int) (C : List UInt8 → Bool) (Ok : List UInt8 → Bool) (At : List UInt8 → Int) (E : Bld → List UInt8 → Bld) (x : Bld) (s : List UInt8) (i : Int) (D : List (FuncId × List AVal)) (k : Kont) (n0 : Int) (e_n0 : n0 = ((↑s.length : Int)))
  (c1 : Bool) (e_c1 : c1 = (decide (i < n0)))
  (c2 : Bool) (e_c2 : c2 = (decide (0 ≤ i) && c1))
  (n3 : Int) (e_n3 : n3 = ((↑(s.getD i.toNat 0).toNat : Int)))
  (l4 : List UInt8) (e_l4 : l4 = ((Bld.mk x.ad x.b x.rows x.v).t))
  (v5 : UInt8) (e_v5 : v5 = (UInt8.ofNat n3.toNat))
  (n6 : Int) (e_n6 : n6 = (IntKind.i64.wrap (i + 1)))
  (l7 : List UInt8) (e_l7 : l7 = ([v5]))
  (m8 : Nat) (e_m8 : m8 = (wsV l4 l7 x.v))
  (n9 : Int) (e_n9 : n9 = (IntKind.i64.wrap (i + 3)))
  (l10 : List UInt8) (e_l10 : l10 = (List.drop n6.toNat (List.take n9.toNat s)))
  (n11 : Int) (e_n11 : n11 = (IntKind.u8.wrap (U l10).fst))
  (v12 : UInt8) (e_v12 : v12 = (UInt8.ofNat n11.toNat))
  (l13 : List UInt8) (e_l13 : l13 = ([v12]))
  (m14 : Nat) (e_m14 : m14 = (wsV l4 l13 x.v)) : lturn Tryz.prog (layPd0 U C) (pdFH Ok At E) 21 3 [0,5,6] [] [0,2,3,4,5] [] (stL 48 [0,5,6] [.str s, .ptr (.hp 0) 0, .int .i64 i] [] [] (b0H.mk x).heap D) k = (
  bif c1 then
  bif c2 then
  bif n3 != 37 then
  bif c2 then
  bif
  tst
  ((Bld.can 0 2 (Bld.mk x.ad x.b x.rows x.v) ∧ l4.length ≤ 1073741824) ∧
  SubL [AVal.ptr (Oid.hp 0) 0, AVal.int IntKind.u8 n3]
  [AVal.ptr (Oid.hp 0) 0, AVal.int IntKind.u8 (↑v5.toNat : Int)] ∧
  (b0H.mk x).heap = (b0H.mk (Bld.mk x.ad x.b x.rows x.v)).heap) then
  k AExit.normal
  (stL 48 [0, 5, 6] [AVal.str s, AVal.ptr (Oid.hp 0) 0, AVal.int IntKind.i64 n6] [] []
  (b0H.mk
  (Bld.mk (AVal.ptr (Oid.hp 0) 0) (bfB 2 (l4.append l7) m8)
  (x.rows.append [[AVal.int IntKind.u8 (↑v5.toNat : Int)]]) m8)).heap
  D)
  else none
  else none
  else
  bif decide (0 ≤ i ∧ i < n0 ∧ s.length ≤ 1099511627776) then
  bif !C (List.drop i.toNat s) then
  k AExit.ret
  (stL 48 [0, 2, 3, 4, 5]
  [AVal.str s, AVal.str [], AVal.int IntKind.i64 i, AVal.int IntKind.i64 33, AVal.ptr (Oid.hp 0) 0] [] []
  (b0H.mk x).heap D)
  else
  bif decide (0 ≤ n6) && decide (n6 ≤ n9) && decide (n9 ≤ n0) then
  bif decide (l10.length ≤ 1099511627776) then
  bif
  tst
  ((Bld.can 0 2 (Bld.mk x.ad x.b x.rows x.v) ∧ l4.length ≤ 1073741824) ∧
  SubL [AVal.ptr (Oid.hp 0) 0, AVal.int IntKind.u8 n11]
  [AVal.ptr (Oid.hp 0) 0, AVal.int IntKind.u8 (↑v12.toNat : Int)] ∧
  (b0H.mk x).heap = (b0H.mk (Bld.mk x.ad x.b x.rows x.v)).heap) then
  k AExit.normal
  (stL 48 [0, 5, 6]
  [AVal.str s, AVal.ptr (Oid.hp 0) 0,
  AVal.int IntKind.i64 (IntKind.i64.wrap (IntKind.i64.wrap (i + 2) + 1))]
  [] []
  (b0H.mk
  (Bld.mk (AVal.ptr (Oid.hp 0) 0) (bfB 2 (l4.append l13) m14)
  (x.rows.append [[AVal.int IntKind.u8 (↑v12.toNat : Int)]]) m14)).heap
  D)
  else none
  else none
  else none
  else none
  else none
  else
  k (AExit.exit 0)
  (stL 48 [0, 2, 3, 4, 5] [AVal.str s, AVal.undef, AVal.undef, AVal.undef, AVal.ptr (Oid.hp 0) 0] [] []
        (b0H.mk x).heap D)) := by
  subst e_n0 e_c1 e_c2 e_n3 e_l4 e_v5 e_n6 e_l7 e_m8 e_n9 e_l10 e_n11 e_v12 e_l13 e_m14
  kernel_rfl
noncomputable def layPd (U : List UInt8 → Int × Int) (C : List UInt8 → Bool) (Ok : List UInt8 → Bool) (At : List UInt8 → Int) (E : Bld → List UInt8 → Bld) : Lay := (layPd0 U C).addL 21 (pdFH Ok At E)
theorem pd_fun (U : List UInt8 → Int × Int) (C : List UInt8 → Bool) (Ok : List UInt8 → Bool) (At : List UInt8 → Int) (E : Bld → List UInt8 → Bld) (s : List UInt8) (k : Out → Ans) (m0 : Nat) (e_m0 : m0 = ((E (Bld.mk AVal.nilptr AVal.nilX [] 0) s).v))
  (l1 : List UInt8) (e_l1 : l1 = ((Bld.mk (E (Bld.mk AVal.nilptr AVal.nilX [] 0) s).ad (E (Bld.mk AVal.nilptr AVal.nilX [] 0) s).b
      (E (Bld.mk AVal.nilptr AVal.nilX [] 0) s).rows m0).t)) : iFun Tryz.prog ((layPd U C Ok At E).hd Tryz.prog) (layPd U C Ok At E).fhs 0 21 [.str s] [] k = (
  bif
      tst
        ((Bld.can 0 2 (Bld.mk AVal.nilptr AVal.nilX [] 0) ∧ 0 = 0 ∧ Int.toNat 0 = 0 ∧ s.length ≤ 1073741824) ∧
          SubTL [AVal.str s, AVal.ptr (Oid.hp 0) 0, AVal.int IntKind.i64 0]
              [AVal.str s, AVal.ptr (Oid.hp 0) 0, AVal.int IntKind.i64 (↑(Int.toNat 0) : Int)] ∧
            ([] : List (List AVal)) = [] ∧
              [Obj.var [AVal.nilptr, AVal.nilX], Obj.note 55 2, Obj.arr 1 [] 0, Obj.note 5 0] =
                (b0H.mk (Bld.mk AVal.nilptr AVal.nilX [] 0)).heap) then
    bif Ok s then
      bif
          tst
            ((Bld.can 0 2
                  (Bld.mk (E (Bld.mk AVal.nilptr AVal.nilX [] 0) s).ad (E (Bld.mk AVal.nilptr AVal.nilX [] 0) s).b
                    (E (Bld.mk AVal.nilptr AVal.nilX [] 0) s).rows m0) ∧
                l1.length ≤ 1099511627776) ∧
              SubL [AVal.ptr (Oid.hp 0) 0] [AVal.ptr (Oid.hp 0) 0] ∧
                (b0H.mk (E (Bld.mk AVal.nilptr AVal.nilX [] 0) s)).heap =
                  (b0H.mk
                      (Bld.mk (E (Bld.mk AVal.nilptr AVal.nilX [] 0) s).ad (E (Bld.mk AVal.nilptr AVal.nilX [] 0) s).b
                        (E (Bld.mk AVal.nilptr AVal.nilX [] 0) s).rows m0)).heap) then
        k
          (Out.ret (AVal.tuple [AVal.str l1, AVal.int IntKind.i64 (↑s.length : Int), AVal.int IntKind.i64 0])
            (b0H.mk
                (Bld.mk (E (Bld.mk AVal.nilptr AVal.nilX [] 0) s).ad (E (Bld.mk AVal.nilptr AVal.nilX [] 0) s).b []
                  (bif l1 == [] then m0 else m0 + 1))).heap)
      else none
    else
      k
        (Out.ret (AVal.tuple [AVal.str [], AVal.int IntKind.i64 (At s), AVal.int IntKind.i64 33])
          (b0H.mk (E (Bld.mk AVal.nilptr AVal.nilX [] 0) s)).heap)
  else none) := by
  subst e_m0 e_l1
  kernel_rfl
/- jstext -/
noncomputable def layJo (U : List UInt8 → Int × Int) (X : Int → List UInt8) (E : Int → Int) : Lay := ((layUh U).addF 86 (encrTold X E)).addF 67 ibTold
theorem jone_fun (U : List UInt8 → Int × Int) (X : Int → List UInt8) (E : Int → Int) (s : List UInt8) (i : Int) (k : Out → Ans) : iFun Tryz.prog ((layJo U X E).hd Tryz.prog) (layJo U X E).fhs 0 54 [.str s, .int .i64 i] [] k = (
 let n0 : Int := IntKind.i64.wrap (i + 1);
 let n1 : Int := (↑s.length : Int);
 let c2 : Bool := decide (0 ≤ n0);
 let m3 : Nat := n0.toNat;
 let n4 : Int := (↑(s.getD m3 0).toNat : Int);
 let n5 : Int := IntKind.i64.wrap (i + 2);
 let n6 : Int := IntKind.i64.wrap (n1 - n5);
 let c7 : Bool := decide (0 ≤ n5);
 let n8 : Int := IntKind.i64.wrap (n5 + 4);
 let m9 : Nat := n5.toNat;
 let l10 : List UInt8 := List.drop m9 (List.take n8.toNat s);
 let n11 : Int := IntKind.i64.wrap (i + 6);
 let n12 : Int := (U l10).fst;
 let c13 : Bool := decide (n12 ≥ 55296);
 let c14 : Bool := bif c13 then decide (n12 < 56320) else false;
 let l15 : List UInt8 := List.drop n11.toNat (List.take n1.toNat s);
 let n16 : Int := (↑l15.length : Int);
 let c17 : Bool := decide (n16 ≥ 2);
 let n18 : Int := IntKind.i64.wrap (i + 8);
 let n19 : Int := IntKind.i64.wrap (n18 + 4);
 let l20 : List UInt8 := List.drop n18.toNat (List.take n19.toNat s);
 let n21 : Int := (U l20).fst;
 let n22 : Int :=
  IntKind.i64.wrap
  (IntKind.i64.wrap (IntKind.i64.wrap (65536 + IntKind.i64.wrap (IntKind.i64.wrap (n12 - 55296) * 1024)) + n21) -
  56320);
 let n23 : Int := IntKind.i64.wrap (n5 + 2);
 let l24 : List UInt8 := List.drop m9 (List.take n23.toNat s);
 let n25 : Int := (U l24).fst;
 let n26 : Int := ibM [98, 116, 110, 118, 102, 114] n4;
  bif decide (n0 ≥ n1) then k (Out.ret (AVal.tuple [AVal.str [], AVal.int IntKind.i64 0, AVal.bool false]) [])
  else
  bif c2 && decide (n0 < n1) then
  bif n4 == 117 then
  bif decide (n6 < 4) then k (Out.ret (AVal.tuple [AVal.str (X 0), AVal.int IntKind.i64 0, AVal.bool false]) [])
  else
  bif c7 && decide (n5 ≤ n8) && decide (n8 ≤ n1) then
  bif decide (l10.length ≤ 1099511627776) then
  bif !(U l10).snd == 0 then
  k (Out.ret (AVal.tuple [AVal.str (X 0), AVal.int IntKind.i64 0, AVal.bool false]) [])
  else
  bif decide (0 ≤ n11) && decide (n11 ≤ n1) && decide (n1 ≤ n1) || !c14 then
  bif decide (2 ≤ n16) || !c17 then
  bif
  bif c14 then
  bif c17 then List.drop (Int.toNat 0) (List.take (Int.toNat 2) l15) == [92, 117] else false
  else false then
  bif decide (IntKind.i64.wrap (n1 - n18) < 4) then
  bif bif c13 then decide (n12 ≤ 57343) else false then
  k (Out.ret (AVal.tuple [AVal.str (X 65533), AVal.int IntKind.i64 6, AVal.bool true]) [])
  else
  bif decide (0 ≤ n12 ∧ n12 ≤ 2147483647) then
  k (Out.ret (AVal.tuple [AVal.str (X n12), AVal.int IntKind.i64 6, AVal.bool true]) [])
  else none
  else
  bif decide (0 ≤ n18) && decide (n18 ≤ n19) && decide (n19 ≤ n1) then
  bif decide (l20.length ≤ 1099511627776) then
  bif
  bif bif (U l20).snd == 0 then decide (n21 ≥ 56320) else false then decide (n21 ≤ 57343)
  else false then
  bif decide (0 ≤ n22 ∧ n22 ≤ 2147483647) then
  k (Out.ret (AVal.tuple [AVal.str (X n22), AVal.int IntKind.i64 12, AVal.bool true]) [])
  else none
  else
  bif bif c13 then decide (n12 ≤ 57343) else false then
  k (Out.ret (AVal.tuple [AVal.str (X 65533), AVal.int IntKind.i64 6, AVal.bool true]) [])
  else
  bif decide (0 ≤ n12 ∧ n12 ≤ 2147483647) then
  k (Out.ret (AVal.tuple [AVal.str (X n12), AVal.int IntKind.i64 6, AVal.bool true]) [])
  else none
  else none
  else none
  else
  bif bif c13 then decide (n12 ≤ 57343) else false then
  k (Out.ret (AVal.tuple [AVal.str (X 65533), AVal.int IntKind.i64 6, AVal.bool true]) [])
  else
  bif decide (0 ≤ n12 ∧ n12 ≤ 2147483647) then
  k (Out.ret (AVal.tuple [AVal.str (X n12), AVal.int IntKind.i64 6, AVal.bool true]) [])
  else none
  else none
  else none
  else none
  else none
  else
  bif n4 == 120 then
  bif decide (n6 < 2) then k (Out.ret (AVal.tuple [AVal.str (X 0), AVal.int IntKind.i64 4, AVal.bool false]) [])
  else
  bif c7 && decide (n5 ≤ n23) && decide (n23 ≤ n1) then
  bif decide (l24.length ≤ 1099511627776) then
  bif decide (0 ≤ n25 ∧ n25 ≤ 2147483647) then
  k (Out.ret (AVal.tuple [AVal.str (X n25), AVal.int IntKind.i64 4, AVal.bool ((U l24).snd == 0)]) [])
  else none
  else none
  else none
  else
  bif decide (n26 ≥ 0) then
  k
  (Out.ret
  (AVal.tuple
  [AVal.str [byteOf [AVal.int IntKind.u8 (IntKind.u8.wrap (IntKind.i64.wrap (8 + n26)))]],
  AVal.int IntKind.i64 2, AVal.bool true])
  [])
  else
  bif
  bif bif bif decide (n4 ≥ 48) then decide (n4 ≤ 57) else false then true else n4 == 10 then true
  else n4 == 13 then
  k (Out.ret (AVal.tuple [AVal.str [], AVal.int IntKind.i64 0, AVal.bool false]) [])
  else
  bif c2 && decide (n0 ≤ n5) && decide (n5 ≤ n1) then
  k
  (Out.ret (AVal.tuple [AVal.str (List.drop m3 (List.take m9 s)), AVal.int IntKind.i64 2, AVal.bool true])
  [])
  else none
  else none) := by kernel_rfl
abbrev JoR := List UInt8 → List UInt8 × Nat × Bool
def joTold (J : JoR) : FSp := mkFS [.s, .i .i64] (fun xs => decide (0 ≤ aI xs 1 ∧ aI xs 1 < (aS xs 0).length ∧ (aS xs 0).length ≤ 1099511627776)) (fun xs k => k (.ret (.tuple [.str (J ((aS xs 0).drop (aI xs 1).toNat)).1, .int .i64 ((J ((aS xs 0).drop (aI xs 1).toNat)).2.1 : Nat), .bool (J ((aS xs 0).drop (aI xs 1).toNat)).2.2]) []))
noncomputable def layJd0 (J : JoR) : Lay := b0_lay (Lay.nil.addF 54 (joTold J))
noncomputable def jdFH (Ok : List UInt8 → Bool) (At : List UInt8 → Int) (E : Bld → List UInt8 → Bld) : FH := { FH.of [(3, loopSpec 59 [0,5,6] [] [0,2,3,4,5] [] (pdSp Ok At E))] with heap := [5], typed := [(5, [(0, bT)])], exact := true }
theorem jd_step (J : JoR) (Ok : List UInt8 → Bool) (At : List UInt8 → Int) (E : Bld → List UInt8 → Bld) (x : Bld) (s : List UInt8) (i : Int) (D : List (FuncId × List AVal)) (k : Kont) (c0 : Bool) (e_c0 : c0 = (decide (i < (↑s.length : Int))))
  (n1 : Int) (e_n1 : n1 = ((↑(s.getD i.toNat 0).toNat : Int)))
  (l2 : List UInt8) (e_l2 : l2 = ((Bld.mk x.ad x.b x.rows x.v).t))
  (m3 : Nat) (e_m3 : m3 = (l2.length))
  (l4 : List UInt8) (e_l4 : l4 = ((J (List.drop i.toNat s)).fst))
  (m5 : Nat) (e_m5 : m5 = (wsV l2 l4 x.v))
  (v6 : UInt8) (e_v6 : v6 = (UInt8.ofNat n1.toNat))
  (l7 : List UInt8) (e_l7 : l7 = ([v6]))
  (m8 : Nat) (e_m8 : m8 = (wsV l2 l7 x.v)) : lturn Tryz.prog (layJd0 J) (jdFH Ok At E) 22 3 [0,5,6] [] [0,2,3,4,5] [] (stL 59 [0,5,6] [.str s, .ptr (.hp 0) 0, .int .i64 i] [] [] (b0H.mk x).heap D) k = (
  bif c0 then
  bif decide (0 ≤ i) && c0 then
  bif n1 == 92 then
  bif decide (0 ≤ i ∧ i < (↑s.length : Int) ∧ s.length ≤ 1099511627776) then
  bif !(J (List.drop i.toNat s)).snd.snd then
  k AExit.ret
  (stL 59 [0, 2, 3, 4, 5]
  [AVal.str s, AVal.str [], AVal.int IntKind.i64 i, AVal.int IntKind.i64 33, AVal.ptr (Oid.hp 0) 0] [] []
  (b0H.mk x).heap D)
  else
  bif
  tst
  ((Bld.can 0 2 (Bld.mk x.ad x.b x.rows x.v) ∧ m3 + l4.length ≤ 1099511627776) ∧
  SubL [AVal.ptr (Oid.hp 0) 0, AVal.str l4] [AVal.ptr (Oid.hp 0) 0, AVal.str l4] ∧
  (b0H.mk x).heap = (b0H.mk (Bld.mk x.ad x.b x.rows x.v)).heap) then
  k AExit.normal
  (stL 59 [0, 5, 6]
  [AVal.str s, AVal.ptr (Oid.hp 0) 0,
  AVal.int IntKind.i64 (IntKind.i64.wrap (i + (↑(J (List.drop i.toNat s)).snd.fst : Int)))]
  [] []
  (b0H.mk
  (Bld.mk (AVal.ptr (Oid.hp 0) 0) (bfB 2 (l2.append l4) m5)
  (x.rows.append (List.map (fun (c : UInt8) => [AVal.int IntKind.u8 (↑c.toNat : Int)]) l4))
  m5)).heap
  D)
  else none
  else none
  else
  bif bif bif bif n1 == 10 then true else n1 == 13 then true else n1 == 34 then true else n1 == 39 then
  k AExit.ret
  (stL 59 [0, 2, 3, 4, 5]
  [AVal.str s, AVal.str [], AVal.int IntKind.i64 i, AVal.int IntKind.i64 33, AVal.ptr (Oid.hp 0) 0] [] []
  (b0H.mk x).heap D)
  else
  bif
  tst
  ((Bld.can 0 2 (Bld.mk x.ad x.b x.rows x.v) ∧ m3 ≤ 1073741824) ∧
  SubL [AVal.ptr (Oid.hp 0) 0, AVal.int IntKind.u8 n1]
  [AVal.ptr (Oid.hp 0) 0, AVal.int IntKind.u8 (↑v6.toNat : Int)] ∧
  (b0H.mk x).heap = (b0H.mk (Bld.mk x.ad x.b x.rows x.v)).heap) then
  k AExit.normal
  (stL 59 [0, 5, 6] [AVal.str s, AVal.ptr (Oid.hp 0) 0, AVal.int IntKind.i64 (IntKind.i64.wrap (i + 1))] [] []
  (b0H.mk
  (Bld.mk (AVal.ptr (Oid.hp 0) 0) (bfB 2 (l2.append l7) m8)
  (x.rows.append [[AVal.int IntKind.u8 (↑v6.toNat : Int)]]) m8)).heap
  D)
  else none
  else none
  else
  k (AExit.exit 0)
  (stL 59 [0, 2, 3, 4, 5] [AVal.str s, AVal.undef, AVal.undef, AVal.undef, AVal.ptr (Oid.hp 0) 0] [] []
        (b0H.mk x).heap D)) := by
  subst e_c0 e_n1 e_l2 e_m3 e_l4 e_m5 e_v6 e_l7 e_m8
  kernel_rfl
noncomputable def layJd (J : JoR) (Ok : List UInt8 → Bool) (At : List UInt8 → Int) (E : Bld → List UInt8 → Bld) : Lay := (layJd0 J).addL 22 (jdFH Ok At E)
theorem jd_fun (J : JoR) (Ok : List UInt8 → Bool) (At : List UInt8 → Int) (E : Bld → List UInt8 → Bld) (s : List UInt8) (k : Out → Ans) (m0 : Nat) (e_m0 : m0 = ((E (Bld.mk AVal.nilptr AVal.nilX [] 0) s).v))
  (l1 : List UInt8) (e_l1 : l1 = ((Bld.mk (E (Bld.mk AVal.nilptr AVal.nilX [] 0) s).ad (E (Bld.mk AVal.nilptr AVal.nilX [] 0) s).b
      (E (Bld.mk AVal.nilptr AVal.nilX [] 0) s).rows m0).t)) : iFun Tryz.prog ((layJd J Ok At E).hd Tryz.prog) (layJd J Ok At E).fhs 0 22 [.str s] [] k = (
  bif
      tst
        ((Bld.can 0 2 (Bld.mk AVal.nilptr AVal.nilX [] 0) ∧ 0 = 0 ∧ Int.toNat 0 = 0 ∧ s.length ≤ 1073741824) ∧
          SubTL [AVal.str s, AVal.ptr (Oid.hp 0) 0, AVal.int IntKind.i64 0]
              [AVal.str s, AVal.ptr (Oid.hp 0) 0, AVal.int IntKind.i64 (↑(Int.toNat 0) : Int)] ∧
            ([] : List (List AVal)) = [] ∧
              [Obj.var [AVal.nilptr, AVal.nilX], Obj.note 55 2, Obj.arr 1 [] 0, Obj.note 5 0] =
                (b0H.mk (Bld.mk AVal.nilptr AVal.nilX [] 0)).heap) then
    bif Ok s then
      bif
          tst
            ((Bld.can 0 2
                  (Bld.mk (E (Bld.mk AVal.nilptr AVal.nilX [] 0) s).ad (E (Bld.mk AVal.nilptr AVal.nilX [] 0) s).b
                    (E (Bld.mk AVal.nilptr AVal.nilX [] 0) s).rows m0) ∧
                l1.length ≤ 1099511627776) ∧
              SubL [AVal.ptr (Oid.hp 0) 0] [AVal.ptr (Oid.hp 0) 0] ∧
                (b0H.mk (E (Bld.mk AVal.nilptr AVal.nilX [] 0) s)).heap =
                  (b0H.mk
                      (Bld.mk (E (Bld.mk AVal.nilptr AVal.nilX [] 0) s).ad (E (Bld.mk AVal.nilptr AVal.nilX [] 0) s).b
                        (E (Bld.mk AVal.nilptr AVal.nilX [] 0) s).rows m0)).heap) then
        k
          (Out.ret (AVal.tuple [AVal.str l1, AVal.int IntKind.i64 (↑s.length : Int), AVal.int IntKind.i64 0])
            (b0H.mk
                (Bld.mk (E (Bld.mk AVal.nilptr AVal.nilX [] 0) s).ad (E (Bld.mk AVal.nilptr AVal.nilX [] 0) s).b []
                  (bif l1 == [] then m0 else m0 + 1))).heap)
      else none
    else
      k
        (Out.ret (AVal.tuple [AVal.str [], AVal.int IntKind.i64 (At s), AVal.int IntKind.i64 33])
          (b0H.mk (E (Bld.mk AVal.nilptr AVal.nilX [] 0) s)).heap)
  else none) := by
  subst e_m0 e_l1
  kernel_rfl
end Go.Mu
set_option linter.unusedVariables false
set_option linter.unusedSimpArgs false
set_option maxRecDepth 100000
namespace Go.Mu
open Go Go.Proofs
theorem CallOK.ofTold {P : Program} {f : FuncId} {s : FSp} (h : ∀ xs H k out, s xs H k = some out → ∃ o, CallOK P f xs H o ∧ k o = some out) {xs : List AVal} {H : Heap} {o : Out} (e : s xs H some = some o) : CallOK P f xs H o := by
  obtain ⟨o', h1, h2⟩ := h xs H some o e
  cases h2
  exact h1
/- hex numbers -/
theorem hexD_dgt (c : UInt8) : ¬ hexD c < 0 → dgt true c = true := oct256 (p := fun c => ¬ hexD c < 0 → dgt true c = true) (by decide +kernel) c
theorem uhM_all : ∀ (l : List UInt8) (n : Int), (uhM n l).1 = true → l.all (dgt true) = true
  | [], _, _ => rfl
  | c :: l, n, h => by
    rw [uhM] at h
    by_cases hc : hexD c < 0
    · rw [dT hc] at h; cases h
    · rw [dF hc, cond_false] at h
      rw [List.all_cons, hexD_dgt c hc, uhM_all l _ h]; rfl
def hexN (l : List UInt8) : Nat := numN true 0 l
theorem unh_yes {l : List UInt8} (h : l.all (dgt true) = true) (h1 : 1 ≤ l.length) (h7 : l.length ≤ 7) : unhexM l = ((hexN l : Int), 0) ∧ hexN l < 16 ^ l.length := by
  obtain ⟨g1, g2⟩ := uhM_num l 0 0 h (by decide) (by omega)
  have g1' : uhM 0 l = (true, ((hexN l : Nat) : Int)) := g1
  unfold unhexM
  have : (l == []) = false := by cases l with | nil => simp at h1 | cons c t => rfl
  rw [this, dF (show ¬ (l.length : Int) > 8 by omega), g1']
  rw [Nat.zero_add] at g2
  exact ⟨rfl, g2⟩
theorem unh_no {l : List UInt8} (h : l.all (dgt true) = false) (h1 : 1 ≤ l.length) (h7 : l.length ≤ 7) : unhexM l = (0, 33) := by
  unfold unhexM
  have e : (l == []) = false := by cases l with | nil => simp at h1 | cons c t => rfl
  have : (uhM 0 l).1 = false := by
    cases hu : (uhM 0 l).1 with
    | false => rfl
    | true => rw [uhM_all l 0 hu] at h; cases h
  rw [e, dF (show ¬ (l.length : Int) > 8 by omega), this]
  rfl
theorem unh_rng (l : List UInt8) (h1 : 1 ≤ l.length) (h4 : l.length ≤ 4) : 0 ≤ (unhexM l).1 ∧ (unhexM l).1 ≤ 65535 := by
  cases h : l.all (dgt true) with
  | true =>
    obtain ⟨g1, g2⟩ := unh_yes h h1 (by omega)
    rw [g1]
    have : 16 ^ l.length ≤ 16 ^ 4 := Nat.pow_le_pow_right (by decide) h4
    have e : (16 : Nat) ^ 4 = 65536 := by decide
    simp only
    omega
  | false => rw [unh_no h h1 (by omega)]; simp
theorem uhT_ok : ∀ xs H k out, mkFS [.s] (fun xs => decide ((aS xs 0).length ≤ 1099511627776)) (fun xs k => k (.ret (.tuple [.int .i64 (unhexM (aS xs 0)).1, .int .i64 (unhexM (aS xs 0)).2]) [])) xs H k = some out → ∃ o, CallOK Tryz.prog 53 xs H o ∧ k o = some out := mkFS_ok fun ys xs e h => by
  obtain ⟨s, rfl⟩ : ∃ s, xs = [.str s] := ⟨_, e⟩
  exact ⟨_, fun k => rfl, CallOK.ofTold unhexTold_ok rfl⟩
theorem layUh_ok : (layUh unhexM).OK Tryz.prog := Lay.nil_ok.addF uhT_ok
/- coded -/
def cdS (t : List UInt8) : Bool := bif (bif t.getD 0 0 != 37 then true else decide (t.length < 3)) then false else (unhexM ((t.drop 1).take 2)).2 == 0
theorem take_drop_of (s : List UInt8) (i a n : Nat) : List.drop (i + a) (List.take (i + a + n) s) = ((s.drop i).drop a).take n := by
  rw [List.drop_drop, List.drop_take]
  congr 1
  omega
theorem cdTold_ok : ∀ xs H k out, cdTold cdS xs H k = some out → ∃ o, CallOK Tryz.prog 52 xs H o ∧ k o = some out := mkFS_ok fun ys xs e h => by
  obtain ⟨s, n, rfl⟩ : ∃ s n, xs = [.str s, .int .i64 n] := ⟨_, _, e⟩
  have h2 : 0 ≤ n ∧ n < s.length ∧ s.length ≤ 1099511627776 := of_decide_eq_true h
  obtain ⟨i, rfl⟩ : ∃ i : Nat, n = i := ⟨n.toNat, by omega⟩
  refine ⟨_, fun k => rfl, layUh_ok.callF (G := []) rfl (fun k => (coded_fun unhexM s i k).trans ?_)⟩
  have w1 : IntKind.i64.wrap ((i : Int) + 1) = ((i + 1 : Nat) : Int) := wrap_add1 (by omega)
  have w3 : IntKind.i64.wrap ((i : Int) + 3) = ((i + 3 : Nat) : Int) := by rw [wrap_of (by omega) (by omega)]; omega
  have wd : IntKind.i64.wrap ((s.length : Int) - (i : Int)) = ((s.length - i : Nat) : Int) := by rw [wrap_of (by omega) (by omega)]; omega
  show _ = k (.ret (.bool (cdS (s.drop i))) [])
  have q37 : (((s.getD i 0).toNat : Int) != 37) = (s.getD i 0 != 37) := by
    have := eqc (c := s.getD i 0) (n := 37) (by decide)
    simp only [bne]; rw [this]
  have hd : (s.drop i).length = s.length - i := List.length_drop
  have hg : (s.drop i).getD 0 0 = s.getD i 0 := by rw [List.getD_drop]; rfl
  have e1 : List.drop (i + 1) (List.take (i + 3) s) = ((s.drop i).drop 1).take 2 := take_drop_of s i 1 2
  simp only [w1, w3, wd, q37, Int.toNat_natCast, e1, dT (show (0 : Int) ≤ (i : Int) by omega), dT (show (i : Int) < s.length by omega), Bool.and_self, cond_true]
  unfold cdS
  rw [hg, hd]
  have e3 : decide (((s.length - i : Nat) : Int) < 3) = decide (s.length - i < 3) := by
    by_cases h3 : s.length - i < 3
    · rw [dT h3, dT (by omega)]
    · rw [dF h3, dF (by omega)]
  rw [e3]
  cases hb : (bif s.getD i 0 != 37 then true else decide (s.length - i < 3)) with
  | true => rfl
  | false =>
    have h3 : ¬ s.length - i < 3 := by
      cases hq : s.getD i 0 != 37 with
      | true => rw [hq] at hb; cases hb
      | false => rw [hq] at hb; exact of_decide_eq_false hb
    have hl : (((s.drop i).drop 1).take 2).length ≤ 2 := by rw [List.length_take]; omega
    refine (congrArg (fun b => cond b _ none) (show (decide ((0 : Int) ≤ ((i + 1 : Nat) : Int)) && decide (((i + 1 : Nat) : Int) ≤ ((i + 3 : Nat) : Int)) && decide (((i + 3 : Nat) : Int) ≤ (s.length : Int))) = true by rw [dT (by omega), dT (by omega), dT (by omega)]; rfl)).trans ((cond_true _ _).trans ?_)
    exact (congrArg (fun b => cond b _ none) (dT (by omega))).trans rfl
theorem layPd0_ok : (layPd0 unhexM cdS).OK Tryz.prog := b0_ok (layUh_ok.addF cdTold_ok)
/- percent.Decode: the octets, one by one; whether all is well -/
def pdF : Nat → List UInt8 → List (List UInt8) × Bool × Nat
  | 0, _ => ([], true, 0)
  | m + 1, t => if t = [] then ([], true, 0) else
    if t.getD 0 0 ≠ 37 then ([t.getD 0 0] :: (pdF m (t.drop 1)).1, (pdF m (t.drop 1)).2.1, (pdF m (t.drop 1)).2.2 + 1) else
    if cdS t = false then ([], false, 0) else ([UInt8.ofNat (IntKind.u8.wrap (unhexM ((t.drop 1).take 2)).1).toNat] :: (pdF m (t.drop 3)).1, (pdF m (t.drop 3)).2.1, (pdF m (t.drop 3)).2.2 + 3)
def pdOk (s : List UInt8) : Bool := (pdF s.length s).2.1
def pdAt (s : List UInt8) : Int := ((pdF s.length s).2.2 : Nat)
def pdE (x : Bld) (s : List UInt8) : Bld := x.adds (pdF s.length s).1
noncomputable abbrev pdTurn := lturn Tryz.prog (layPd0 unhexM cdS) (pdFH pdOk pdAt pdE) 21 3 [0,5,6] [] [0,2,3,4,5] []
theorem pd_runs (s : List UInt8) (hs : s.length ≤ 1073741824) : ∀ (m i : Nat) (x : Bld), s.length - i ≤ m → i ≤ s.length → x.can 0 2 → x.t.length ≤ i →
    ((pdF m (s.drop i)).2.1 = true → LoopRuns pdTurn 48 [0,5,6] [] [0,2,3,4,5] [] [.str s, .ptr (.hp 0) 0, .int .i64 (i : Nat)] [] (b0H.mk x).heap (.exit 0) [.str s, .undef, .undef, .undef, .ptr (.hp 0) 0] [] (b0H.mk (x.adds (pdF m (s.drop i)).1)).heap) ∧
    ((pdF m (s.drop i)).2.1 = false → LoopRuns pdTurn 48 [0,5,6] [] [0,2,3,4,5] [] [.str s, .ptr (.hp 0) 0, .int .i64 (i : Nat)] [] (b0H.mk x).heap .ret [.str s, .str [], .int .i64 ((i + (pdF m (s.drop i)).2.2 : Nat) : Int), .int .i64 33, .ptr (.hp 0) 0] [] (b0H.mk (x.adds (pdF m (s.drop i)).1)).heap) := by
  have out : ∀ (m i : Nat) (x : Bld), s.length ≤ i → (pdF m (s.drop i)) = ([], true, 0) ∧ LoopRuns pdTurn 48 [0,5,6] [] [0,2,3,4,5] [] [.str s, .ptr (.hp 0) 0, .int .i64 (i : Nat)] [] (b0H.mk x).heap (.exit 0) [.str s, .undef, .undef, .undef, .ptr (.hp 0) 0] [] (b0H.mk x).heap := fun m i x hi => by
    refine ⟨?_, .stop (by simp) (fun D k => (pd_step unhexM cdS pdOk pdAt pdE x s i D k _ rfl _ rfl _ rfl _ rfl _ rfl _ rfl _ rfl _ rfl _ rfl _ rfl _ rfl _ rfl _ rfl _ rfl _ rfl).trans ?_)⟩
    · rw [List.drop_eq_nil_of_le hi]
      cases m with
      | zero => rfl
      | succ m => rw [pdF, if_pos rfl]
    · rw [dF (show ¬ (i : Int) < s.length by omega), cond_false]
  intro m
  induction m with
  | zero =>
    intro i x hm hi hx ht
    obtain ⟨e, r⟩ := out 0 i x (by omega)
    rw [e]
    exact ⟨fun _ => r, fun h => by cases h⟩
  | succ m ih =>
    intro i x hm hi hx ht
    by_cases hlt : i < s.length
    case neg =>
      obtain ⟨e, r⟩ := out (m + 1) i x (by omega)
      rw [e]
      exact ⟨fun _ => r, fun h => by cases h⟩
    have hd : (s.drop i).length = s.length - i := List.length_drop
    have hne : s.drop i ≠ [] := fun e => by rw [e] at hd; simp at hd; omega
    have hg : (s.drop i).getD 0 0 = s.getD i 0 := by rw [List.getD_drop]; rfl
    have w1 : IntKind.i64.wrap ((i : Int) + 1) = ((i + 1 : Nat) : Int) := wrap_add1 (by omega)
    have w2 : IntKind.i64.wrap ((i : Int) + 2) = ((i + 2 : Nat) : Int) := by rw [wrap_of (by omega) (by omega)]; omega
    have w21 : IntKind.i64.wrap (((i + 2 : Nat) : Int) + 1) = ((i + 3 : Nat) : Int) := wrap_add1 (by omega)
    have w3 : IntKind.i64.wrap ((i : Int) + 3) = ((i + 3 : Nat) : Int) := by rw [wrap_of (by omega) (by omega)]; omega
    have e1 : List.drop (i + 1) (List.take (i + 3) s) = ((s.drop i).drop 1).take 2 := take_drop_of s i 1 2
    have q37 : (((s.getD i 0).toNat : Int) != 37) = (s.getD i 0 != 37) := by
      have := eqc (c := s.getD i 0) (n := 37) (by decide)
      simp only [bne]; rw [this]
    have hci : decide ((i : Int) < s.length) = true := dT (by omega)
    have hc0 : (decide ((0 : Int) ≤ (i : Int)) && true) = true := by rw [dT (by omega)]; rfl
    have key := fun D k => pd_step unhexM cdS pdOk pdAt pdE x s i D k _ rfl _ hci.symm _ (by rw [hc0]) _ rfl x.t rfl (s.getD i 0) (by simp) _ w1.symm _ rfl _ rfl _ w3.symm _ (by rw [Int.toNat_natCast, Int.toNat_natCast, e1]) _ rfl _ rfl _ rfl _ rfl
    simp only [cond_true, q37, Int.toNat_natCast, w2, w21] at key
    rw [pdF, if_neg hne, hg]
    simp only [List.drop_drop]
    by_cases h37 : s.getD i 0 = 37
    · rw [if_neg (by simpa using h37)]
      have hb : (s.getD i 0 != 37) = false := by rw [h37]; rfl
      simp only [hb, cond_false] at key
      replace key := fun D k => (key D k).trans ((congrArg (fun b => cond b _ none) (dT ⟨by omega, by omega, by omega⟩)).trans (cond_true _ _))
      cases hc : cdS (s.drop i) with
      | false =>
        rw [if_pos rfl]
        refine ⟨fun h => (by cases h), fun _ => .stop (by simp) (fun D k => (key D k).trans ?_)⟩
        rw [hc]
        rfl
      | true =>
        rw [if_neg (by simp)]
        have h3 : ¬ s.length - i < 3 := by
          unfold cdS at hc
          rw [hg, hd, hb, cond_false] at hc
          intro h3
          rw [dT h3] at hc
          cases hc
        have hl : (((s.drop i).drop 1).take 2).length ≤ 2 := by rw [List.length_take]; omega
        have h2l : (((s.drop i).drop 1).take 2).length = 2 := by rw [List.length_take, List.length_drop, hd]; omega
        have hr := unh_rng (((s.drop i).drop 1).take 2) (by omega) (by omega)
        have hw : IntKind.u8.wrap (unhexM (((s.drop i).drop 1).take 2)).1 = ((UInt8.ofNat (IntKind.u8.wrap (unhexM (((s.drop i).drop 1).take 2)).1).toNat).toNat : Int) := by
          rw [wrap8, UInt8.toNat_ofNat']
          omega
        replace key := fun D k => (key D k).trans ((congrArg (fun b => cond b _ _) (show (!cdS (s.drop i)) = false by rw [hc]; rfl)).trans ((cond_false _ _).trans
          ((congrArg (fun b => cond b _ none) (show (decide ((0 : Int) ≤ ((i + 1 : Nat) : Int)) && decide (((i + 1 : Nat) : Int) ≤ ((i + 3 : Nat) : Int)) && decide (((i + 3 : Nat) : Int) ≤ (s.length : Int))) = true by rw [dT (by omega), dT (by omega), dT (by omega)]; rfl)).trans ((cond_true _ _).trans
          ((congrArg (fun b => cond b _ none) (dT (by omega))).trans ((cond_true _ _).trans
          ((congrArg (fun b => cond b _ none) (tst_true ⟨⟨hx, by omega⟩, .cons (.refl _) (.cons (by rw [← hw]; exact .refl _) .nil), by trivial⟩)).trans (cond_true _ _))))))))
        obtain ⟨r1, r2⟩ := ih (i + 3) (x.add 0 2 [UInt8.ofNat (IntKind.u8.wrap (unhexM (((s.drop i).drop 1).take 2)).1).toNat]) (by omega) (by omega) (Bld.add_can hx _) (by rw [Bld.add_t, List.length_append]; simp only [List.length_singleton]; omega)
        have e5 : ((s.drop i).drop 1).take 2 = ((s.drop (i + 1)).take 2) := by rw [List.drop_drop]
        rw [e5] at key r1 r2
        refine ⟨fun h => .step key (r1 h), fun h => ?_⟩
        have := r2 h
        rw [show i + 3 + (pdF m (List.drop (i + 3) s)).2.2 = i + ((pdF m (List.drop (i + 3) s)).2.2 + 3) by omega] at this
        exact .step key this
    · rw [if_pos (by simpa using h37)]
      have hb : (s.getD i 0 != 37) = true := by simpa using h37
      simp only [hb, cond_true] at key
      replace key := fun D k => (key D k).trans ((congrArg (fun b => cond b _ none) (tst_true ⟨⟨hx, by omega⟩, .refl _, by trivial⟩)).trans (cond_true _ _))
      obtain ⟨r1, r2⟩ := ih (i + 1) (x.add 0 2 [s.getD i 0]) (by omega) (by omega) (Bld.add_can hx _) (by rw [Bld.add_t, List.length_append]; simp only [List.length_singleton]; omega)
      refine ⟨fun h => .step key (r1 h), fun h => ?_⟩
      have := r2 h
      rw [show i + 1 + (pdF m (List.drop (i + 1) s)).2.2 = i + ((pdF m (List.drop (i + 1) s)).2.2 + 1) by omega] at this
      exact .step key this
end Go.Mu
set_option linter.unusedVariables false
set_option linter.unusedSimpArgs false
set_option maxRecDepth 100000
namespace Go.Mu
open Go Go.Proofs
theorem pdSp_ok : SpOK pdTurn 48 [0,5,6] [] [0,2,3,4,5] [] (pdSp pdOk pdAt pdE) := mkL_ok fun a h => by
  obtain ⟨x, s, i⟩ := a
  obtain ⟨h1, h2, h3, h4⟩ := h
  simp only at h1 h2 h3 h4
  subst h3
  obtain ⟨r1, r2⟩ := pd_runs s h4 s.length 0 x (by omega) (by omega) h1 (by omega)
  rw [List.drop_zero] at r1 r2
  show ∃ e vs bs H', (∀ k : AExit → List AVal → List (List AVal) → Heap → Ans, cond (pdOk s) _ _ = k e vs bs H') ∧ _
  cases ho : pdOk s with
  | true => exact ⟨_, _, _, _, fun k => rfl, r1 ho⟩
  | false =>
    have := r2 ho
    rw [Nat.zero_add] at this
    exact ⟨_, _, _, _, fun k => rfl, this⟩
theorem layPd_ok : (layPd unhexM cdS pdOk pdAt pdE).OK Tryz.prog := layPd0_ok.loop1 (id := 3) (by kernel_rfl) (by kernel_rfl) (by kernel_rfl) pdSp_ok
theorem pdF_len : ∀ (m : Nat) (t : List UInt8), t.length ≤ m → (pdF m t).1.flatten.length ≤ t.length
  | 0, t, _ => by simp [pdF]
  | m + 1, t, h => by
    rw [pdF]
    split
    · simp
    · rename_i hne
      have hl : 0 < t.length := List.length_pos_iff.2 hne
      split
      · have := pdF_len m (t.drop 1) (by rw [List.length_drop]; omega)
        rw [List.length_drop] at this
        simp only [List.flatten_cons, List.length_append, List.length_singleton]
        omega
      · split
        · simp
        · have := pdF_len m (t.drop 3) (by rw [List.length_drop]; omega)
          rw [List.length_drop] at this
          simp only [List.flatten_cons, List.length_append, List.length_singleton]
          omega
def pdT (s : List UInt8) : List UInt8 := bif pdOk s then (pdF s.length s).1.flatten else []
def pdI (s : List UInt8) : Int := bif pdOk s then (s.length : Int) else pdAt s
def pdEr (s : List UInt8) : Int := bif pdOk s then 0 else 33
theorem pd_ok (s : List UInt8) (hs : s.length ≤ 1073741824) : CallOK Tryz.prog 21 [.str s] [] (.ret (.tuple [.str (pdT s), .int .i64 (pdI s), .int .i64 (pdEr s)]) []) := by
  have c1 : (pdE Bld.new s).can 0 2 := Bld.adds_can _ (Bld.new_can 0 2)
  have t1 : (pdE Bld.new s).t = (pdF s.length s).1.flatten := by unfold pdE; rw [Bld.adds_t]; rfl
  have hl := pdF_len s.length s (Nat.le_refl _)
  unfold pdT pdI pdEr
  have key := fun k => (pd_fun unhexM cdS pdOk pdAt pdE s k _ rfl (pdE Bld.new s).t rfl).trans
    ((congrArg (fun c => cond c _ none) (tst_true ⟨⟨Bld.new_can 0 2, rfl, rfl, hs⟩, .refl _, by trivial⟩)).trans (cond_true _ _))
  cases ho : pdOk s with
  | true =>
    simp only [ho, cond_true] at key ⊢
    rw [← t1]
    exact layPd_ok.callF rfl (fun k => (key k).trans ((congrArg (fun c => cond c _ none) (tst_true ⟨⟨c1, by rw [t1]; omega⟩, .refl _, by trivial⟩)).trans (cond_true _ _)))
  | false =>
    simp only [ho, cond_false] at key ⊢
    exact layPd_ok.callF rfl key
/- jstext.one -/
theorem ueTold_ok : ∀ xs H k out, encrTold encX encXE xs H k = some out → ∃ o, CallOK Tryz.prog 86 xs H o ∧ k o = some out := mkFS_ok fun ys xs e h => by
  obtain ⟨n, rfl⟩ : ∃ n, xs = [.int .i64 n] := ⟨_, e⟩
  have h2 : 0 ≤ n ∧ n ≤ 2147483647 := of_decide_eq_true h
  obtain ⟨e1, e2⟩ := enc_exact h2.1 h2.2
  refine ⟨_, fun k => rfl, ?_⟩
  show CallOK Tryz.prog 86 [.int .i64 n] [] (.ret (.tuple [.str (encX n), .int .i64 (encXE n)]) [])
  rw [← e1, ← e2]
  exact CallOK.ofTold encTold_ok rfl
theorem layJo_ok : (layJo unhexM encX encXE).OK Tryz.prog := (layUh_ok.addF ueTold_ok).addF ibTold_ok
def joLow (t : List UInt8) : Bool := decide (12 ≤ t.length) && ((t.drop 6).take 2 == [92, 117]) && ((unhexM ((t.drop 8).take 4)).2 == 0) && decide ((unhexM ((t.drop 8).take 4)).1 ≥ 56320) && decide ((unhexM ((t.drop 8).take 4)).1 ≤ 57343)
def joU (t : List UInt8) : List UInt8 × Nat × Bool :=
  if t.length < 6 then (encX 0, 0, false) else
  if (unhexM ((t.drop 2).take 4)).2 ≠ 0 then (encX 0, 0, false) else
  if (55296 ≤ (unhexM ((t.drop 2).take 4)).1 ∧ (unhexM ((t.drop 2).take 4)).1 < 56320) ∧ joLow t = true then (encX (65536 + ((unhexM ((t.drop 2).take 4)).1 - 55296) * 1024 + (unhexM ((t.drop 8).take 4)).1 - 56320), 12, true) else
  if 55296 ≤ (unhexM ((t.drop 2).take 4)).1 ∧ (unhexM ((t.drop 2).take 4)).1 ≤ 57343 then (encX 65533, 6, true) else (encX (unhexM ((t.drop 2).take 4)).1, 6, true)
def joX (t : List UInt8) : List UInt8 × Nat × Bool := if t.length < 4 then (encX 0, 4, false) else (encX (unhexM ((t.drop 2).take 2)).1, 4, (unhexM ((t.drop 2).take 2)).2 == 0)
def joS (t : List UInt8) : List UInt8 × Nat × Bool :=
  if t.length < 2 then ([], 0, false) else if t.getD 1 0 = 117 then joU t else if t.getD 1 0 = 120 then joX t else
  if ibM [98, 116, 110, 118, 102, 114] ((t.getD 1 0).toNat : Int) ≥ 0 then ([byteOf [.int .u8 (IntKind.u8.wrap (IntKind.i64.wrap (8 + ibM [98, 116, 110, 118, 102, 114] ((t.getD 1 0).toNat : Int))))]], 2, true) else
  if (bif bif bif decide (((t.getD 1 0).toNat : Int) ≥ 48) then decide (((t.getD 1 0).toNat : Int) ≤ 57) else false then true else ((t.getD 1 0).toNat : Int) == 10 then true else ((t.getD 1 0).toNat : Int) == 13) = true then ([], 0, false) else ([t.getD 1 0], 2, true)
set_option maxHeartbeats 1000000 in
theorem joTold_ok : ∀ xs H k out, joTold joS xs H k = some out → ∃ o, CallOK Tryz.prog 54 xs H o ∧ k o = some out := mkFS_ok fun ys xs e h => by
  obtain ⟨s, n, rfl⟩ : ∃ s n, xs = [.str s, .int .i64 n] := ⟨_, _, e⟩
  have h2 : 0 ≤ n ∧ n < s.length ∧ s.length ≤ 1099511627776 := of_decide_eq_true h
  obtain ⟨i, rfl⟩ : ∃ i : Nat, n = i := ⟨n.toNat, by omega⟩
  refine ⟨_, fun k => rfl, layJo_ok.callF (G := []) rfl (fun k => (jone_fun unhexM encX encXE s i k).trans ?_)⟩
  show _ = k (.ret (.tuple [.str (joS (s.drop i)).1, .int .i64 ((joS (s.drop i)).2.1 : Nat), .bool (joS (s.drop i)).2.2]) [])
  have w1 : IntKind.i64.wrap ((i : Int) + 1) = ((i + 1 : Nat) : Int) := wrap_add1 (by omega)
  have w2 : IntKind.i64.wrap ((i : Int) + 2) = ((i + 2 : Nat) : Int) := by rw [wrap_of (by omega) (by omega)]; omega
  have w6 : IntKind.i64.wrap ((i : Int) + 6) = ((i + 6 : Nat) : Int) := by rw [wrap_of (by omega) (by omega)]; omega
  have w8 : IntKind.i64.wrap ((i : Int) + 8) = ((i + 8 : Nat) : Int) := by rw [wrap_of (by omega) (by omega)]; omega
  have w24 : IntKind.i64.wrap (((i + 2 : Nat) : Int) + 4) = ((i + 6 : Nat) : Int) := by rw [wrap_of (by omega) (by omega)]; omega
  have w22 : IntKind.i64.wrap (((i + 2 : Nat) : Int) + 2) = ((i + 4 : Nat) : Int) := by rw [wrap_of (by omega) (by omega)]; omega
  have w84 : IntKind.i64.wrap (((i + 8 : Nat) : Int) + 4) = ((i + 12 : Nat) : Int) := by rw [wrap_of (by omega) (by omega)]; omega
  have wd2 : IntKind.i64.wrap ((s.length : Int) - ((i + 2 : Nat) : Int)) = (s.length : Int) - ((i + 2 : Nat) : Int) := wrap_of (by omega) (by omega)
  have wd8 : IntKind.i64.wrap ((s.length : Int) - ((i + 8 : Nat) : Int)) = (s.length : Int) - ((i + 8 : Nat) : Int) := wrap_of (by omega) (by omega)
  have hd : (s.drop i).length = s.length - i := List.length_drop
  have hg : (s.drop i).getD 1 0 = s.getD (i + 1) 0 := by rw [List.getD_drop]
  have d24 : List.drop (i + 2) (List.take (i + 6) s) = ((s.drop i).drop 2).take 4 := take_drop_of s i 2 4
  have d22 : List.drop (i + 2) (List.take (i + 4) s) = ((s.drop i).drop 2).take 2 := take_drop_of s i 2 2
  have d84 : List.drop (i + 8) (List.take (i + 12) s) = ((s.drop i).drop 8).take 4 := take_drop_of s i 8 4
  have d6 : List.drop (i + 6) (List.take s.length s) = (s.drop i).drop 6 := by rw [List.take_length, List.drop_drop]
  have d11 : List.drop (i + 1) (List.take (i + 2) s) = ((s.drop i).drop 1).take 1 := take_drop_of s i 1 1
  simp only [w1, w2, w6, w8, w24, w22, w84, wd2, wd8, Int.toNat_natCast, d24, d22, d84, d6, d11]
  generalize ht : s.drop i = t at hd hg ⊢
  unfold joS
  by_cases hl2 : t.length < 2
  · rw [if_pos hl2, dT (show ((i + 1 : Nat) : Int) ≥ (s.length : Int) by omega)]; rfl
  rw [if_neg hl2, dF (show ¬ ((i + 1 : Nat) : Int) ≥ (s.length : Int) by omega), cond_false, hg]
  rw [show (decide ((0 : Int) ≤ ((i + 1 : Nat) : Int)) && decide (((i + 1 : Nat) : Int) < (s.length : Int))) = true by rw [dT (by omega), dT (by omega)]; rfl, cond_true]
  have q117 : (((s.getD (i + 1) 0).toNat : Int) == 117) = (s.getD (i + 1) 0 == 117) := eqc (by decide)
  have q120 : (((s.getD (i + 1) 0).toNat : Int) == 120) = (s.getD (i + 1) 0 == 120) := eqc (by decide)
  rw [q117, q120]
  by_cases hu : s.getD (i + 1) 0 = 117
  · rw [if_pos hu, hu]
    show cond _ _ _ = _
    unfold joU
    by_cases h6 : t.length < 6
    · rw [if_pos h6, dT (show (s.length : Int) - ((i + 2 : Nat) : Int) < 4 by omega)]; rfl
    rw [if_neg h6, dF (show ¬ (s.length : Int) - ((i + 2 : Nat) : Int) < 4 by omega), cond_false]
    rw [show (decide ((0 : Int) ≤ ((i + 2 : Nat) : Int)) && decide (((i + 2 : Nat) : Int) ≤ ((i + 6 : Nat) : Int)) && decide (((i + 6 : Nat) : Int) ≤ (s.length : Int))) = true by rw [dT (by omega), dT (by omega), dT (by omega)]; rfl, cond_true]
    have hl : ((t.drop 2).take 4).length = 4 := by rw [List.length_take, List.length_drop]; omega
    rw [dT (show ((t.drop 2).take 4).length ≤ 1099511627776 by omega), cond_true]
    have hr := unh_rng ((t.drop 2).take 4) (by omega) (by omega)
    generalize hq : unhexM ((t.drop 2).take 4) = r at hr ⊢
    by_cases he : r.2 = 0
    · rw [if_neg (by simpa using he)]
      have hb : (!(r.2 == 0)) = false := by rw [he]; rfl
      rw [hb, cond_false]
      have hl6 : (t.drop 6).length = t.length - 6 := List.length_drop
      have g1 : (decide ((0 : Int) ≤ ((i + 6 : Nat) : Int)) && decide (((i + 6 : Nat) : Int) ≤ (s.length : Int)) && decide ((s.length : Int) ≤ (s.length : Int)) || !(bif decide (r.1 ≥ 55296) then decide (r.1 < 56320) else false)) = true := by
        rw [dT (show (0 : Int) ≤ ((i + 6 : Nat) : Int) by omega), dT (show ((i + 6 : Nat) : Int) ≤ (s.length : Int) by omega), dT (Int.le_refl _)]; rfl
      rw [g1, cond_true]
      have g2 : (decide ((2 : Int) ≤ ((t.drop 6).length : Int)) || !decide (((t.drop 6).length : Int) ≥ 2)) = true := by
        by_cases hx : (2 : Int) ≤ ((t.drop 6).length : Int)
        · rw [dT hx]; rfl
        · rw [dF (show ¬ ((t.drop 6).length : Int) ≥ 2 by omega)]; simp
      rw [g2, cond_true]
      have etl : (bif bif decide (r.1 ≥ 55296) then decide (r.1 ≤ 57343) else false then k (Out.ret (AVal.tuple [AVal.str (encX 65533), AVal.int IntKind.i64 6, AVal.bool true]) []) else bif decide (0 ≤ r.1 ∧ r.1 ≤ 2147483647) then k (Out.ret (AVal.tuple [AVal.str (encX r.1), AVal.int IntKind.i64 6, AVal.bool true]) []) else none) =
          k (.ret (.tuple [.str (if 55296 ≤ r.1 ∧ r.1 ≤ 57343 then (encX 65533, 6, true) else (encX r.1, 6, true) : List UInt8 × Nat × Bool).1, .int .i64 ((if 55296 ≤ r.1 ∧ r.1 ≤ 57343 then (encX 65533, 6, true) else (encX r.1, 6, true) : List UInt8 × Nat × Bool).2.1 : Nat), .bool (if 55296 ≤ r.1 ∧ r.1 ≤ 57343 then (encX 65533, 6, true) else (encX r.1, 6, true) : List UInt8 × Nat × Bool).2.2]) []) := by
        by_cases hs : 55296 ≤ r.1 ∧ r.1 ≤ 57343
        · rw [if_pos hs, dT (show r.1 ≥ 55296 by omega), dT hs.2]; rfl
        · have hb2 : (bif decide (r.1 ≥ 55296) then decide (r.1 ≤ 57343) else false) = false := by
            by_cases hx : r.1 ≥ 55296
            · rw [dT hx, dF (show ¬ r.1 ≤ 57343 by omega)]; rfl
            · rw [dF hx]; rfl
          rw [if_neg hs, hb2, dT (show 0 ≤ r.1 ∧ r.1 ≤ 2147483647 by omega)]; rfl
      by_cases hh : 55296 ≤ r.1 ∧ r.1 < 56320
      · have hb3 : (bif decide (r.1 ≥ 55296) then decide (r.1 < 56320) else false) = true := by rw [dT (show r.1 ≥ 55296 by omega), dT hh.2]; rfl
        rw [hb3, cond_true]
        by_cases hp : (t.drop 6).take 2 = [92, 117]
        · have hp2 : 2 ≤ t.length - 6 := by
            have := congrArg List.length hp
            rw [List.length_take, hl6] at this
            simp at this
            omega
          have hb4 : (bif decide (((t.drop 6).length : Int) ≥ 2) then List.drop (Int.toNat 0) (List.take (Int.toNat 2) (t.drop 6)) == [92, 117] else false) = true := by
            rw [dT (show ((t.drop 6).length : Int) ≥ 2 by omega), cond_true]
            show (List.drop 0 ((t.drop 6).take 2) == [92, 117]) = true
            rw [hp]; rfl
          rw [hb4, cond_true]
          by_cases h12 : 12 ≤ t.length
          · rw [dF (show ¬ (s.length : Int) - ((i + 8 : Nat) : Int) < 4 by omega), cond_false]
            rw [show (decide ((0 : Int) ≤ ((i + 8 : Nat) : Int)) && decide (((i + 8 : Nat) : Int) ≤ ((i + 12 : Nat) : Int)) && decide (((i + 12 : Nat) : Int) ≤ (s.length : Int))) = true by rw [dT (by omega), dT (by omega), dT (by omega)]; rfl, cond_true]
            have hl8 : ((t.drop 8).take 4).length = 4 := by rw [List.length_take, List.length_drop]; omega
            rw [dT (show ((t.drop 8).take 4).length ≤ 1099511627776 by omega), cond_true]
            have hjl : joLow t = (bif bif (unhexM ((t.drop 8).take 4)).2 == 0 then decide ((unhexM ((t.drop 8).take 4)).1 ≥ 56320) else false then decide ((unhexM ((t.drop 8).take 4)).1 ≤ 57343) else false) := by
              unfold joLow
              rw [hp, dT h12]
              cases (unhexM ((t.drop 8).take 4)).2 == 0 <;> cases decide ((unhexM ((t.drop 8).take 4)).1 ≥ 56320) <;> cases decide ((unhexM ((t.drop 8).take 4)).1 ≤ 57343) <;> rfl
            have hr2 := unh_rng ((t.drop 8).take 4) (by omega) (by omega)
            cases hj : joLow t with
            | true =>
              rw [← hjl, hj, cond_true, if_pos ⟨hh, by simp⟩]
              have hlow : 56320 ≤ (unhexM ((t.drop 8).take 4)).1 ∧ (unhexM ((t.drop 8).take 4)).1 ≤ 57343 := by
                unfold joLow at hj
                simp only [Bool.and_eq_true, decide_eq_true_eq] at hj
                omega
              generalize (unhexM ((t.drop 8).take 4)).1 = q at hlow ⊢
              have ww : IntKind.i64.wrap (IntKind.i64.wrap (IntKind.i64.wrap (65536 + IntKind.i64.wrap (IntKind.i64.wrap (r.1 - 55296) * 1024)) + q) - 56320) = 65536 + (r.1 - 55296) * 1024 + q - 56320 := by
                rw [wrap_of (n := r.1 - 55296) (by omega) (by omega), wrap_of (n := (r.1 - 55296) * 1024) (by omega) (by omega), wrap_of (n := 65536 + (r.1 - 55296) * 1024) (by omega) (by omega), wrap_of (n := 65536 + (r.1 - 55296) * 1024 + q) (by omega) (by omega), wrap_of (by omega) (by omega)]
              rw [ww, dT (show 0 ≤ 65536 + (r.1 - 55296) * 1024 + q - 56320 ∧ 65536 + (r.1 - 55296) * 1024 + q - 56320 ≤ 2147483647 by omega)]
              rfl
            | false =>
              rw [← hjl, hj, cond_false, if_neg (by simp)]
              exact etl
          · have hj : joLow t = false := by unfold joLow; rw [dF h12]; rfl
            rw [dT (show (s.length : Int) - ((i + 8 : Nat) : Int) < 4 by omega), cond_true, hj, if_neg (by simp)]
            exact etl
        · have hj : joLow t = false := by
            unfold joLow
            have : ((t.drop 6).take 2 == [92, 117]) = false := by simpa using hp
            rw [this]; simp
          have hb4 : (bif decide (((t.drop 6).length : Int) ≥ 2) then List.drop (Int.toNat 0) (List.take (Int.toNat 2) (t.drop 6)) == [92, 117] else false) = false := by
            have : (List.drop (Int.toNat 0) (List.take (Int.toNat 2) (t.drop 6)) == [92, 117]) = false := by
              show (List.drop 0 ((t.drop 6).take 2) == [92, 117]) = false
              simpa using hp
            rw [this, Bool.cond_self]
          rw [hb4, cond_false, hj, if_neg (by simp)]
          exact etl
      · have hb3 : (bif decide (r.1 ≥ 55296) then decide (r.1 < 56320) else false) = false := by
          by_cases hx : r.1 ≥ 55296
          · rw [dT hx, dF (show ¬ r.1 < 56320 by omega)]; rfl
          · rw [dF hx]; rfl
        rw [hb3, cond_false, cond_false, if_neg (fun hc => hh hc.1)]
        exact etl
    · rw [if_pos (by simpa using he)]
      have hb : (!(r.2 == 0)) = true := by rw [beq_false_of_ne he]; rfl
      rw [hb]; rfl
  rw [if_neg hu, beq_false_of_ne hu, cond_false]
  by_cases hx : s.getD (i + 1) 0 = 120
  · rw [if_pos hx, hx]
    show cond _ _ _ = _
    unfold joX
    by_cases h4 : t.length < 4
    · rw [if_pos h4, dT (show (s.length : Int) - ((i + 2 : Nat) : Int) < 2 by omega)]; rfl
    rw [if_neg h4, dF (show ¬ (s.length : Int) - ((i + 2 : Nat) : Int) < 2 by omega), cond_false]
    rw [show (decide ((0 : Int) ≤ ((i + 2 : Nat) : Int)) && decide (((i + 2 : Nat) : Int) ≤ ((i + 4 : Nat) : Int)) && decide (((i + 4 : Nat) : Int) ≤ (s.length : Int))) = true by rw [dT (by omega), dT (by omega), dT (by omega)]; rfl, cond_true]
    have hl : ((t.drop 2).take 2).length = 2 := by rw [List.length_take, List.length_drop]; omega
    have hr := unh_rng ((t.drop 2).take 2) (by omega) (by omega)
    rw [dT (show ((t.drop 2).take 2).length ≤ 1099511627776 by omega), cond_true, dT (show 0 ≤ (unhexM ((t.drop 2).take 2)).1 ∧ (unhexM ((t.drop 2).take 2)).1 ≤ 2147483647 by omega)]
    rfl
  rw [if_neg hx, beq_false_of_ne hx, cond_false]
  by_cases hi : ibM [98, 116, 110, 118, 102, 114] ((s.getD (i + 1) 0).toNat : Int) ≥ 0
  · rw [if_pos hi, dT hi]; rfl
  rw [if_neg hi, dF hi, cond_false]
  cases hc : (bif bif bif decide (((s.getD (i + 1) 0).toNat : Int) ≥ 48) then decide (((s.getD (i + 1) 0).toNat : Int) ≤ 57) else false then true else ((s.getD (i + 1) 0).toNat : Int) == 10 then true else ((s.getD (i + 1) 0).toNat : Int) == 13) with
  | true => rw [if_pos rfl]; rfl
  | false =>
    rw [if_neg (by simp), cond_false]
    rw [show (decide ((0 : Int) ≤ ((i + 1 : Nat) : Int)) && decide (((i + 1 : Nat) : Int) ≤ ((i + 2 : Nat) : Int)) && decide (((i + 2 : Nat) : Int) ≤ (s.length : Int))) = true by rw [dT (by omega), dT (by omega), dT (by omega)]; rfl, cond_true]
    have e1 : (t.drop 1).take 1 = [s.getD (i + 1) 0] := by
      rw [← hg, drop_cons_of t 1 0 (by omega)]; rfl
    rw [e1]
    rfl
end Go.Mu
set_option linter.unusedVariables false
set_option linter.unusedSimpArgs false
set_option maxRecDepth 100000
namespace Go.Mu
open Go Go.Proofs
theorem joS_ok (t : List UInt8) : (joS t).2.2 = true → 1 ≤ (joS t).2.1 ∧ (joS t).2.1 ≤ t.length ∧ (joS t).1.length ≤ (joS t).2.1 := by
  have hx := encX_len
  unfold joS
  split
  · intro h; cases h
  split
  · unfold joU
    split
    · intro h; cases h
    split
    · intro h; cases h
    split
    · rename_i h6 _ hj
      intro _
      have hj := hj.2
      unfold joLow at hj
      simp only [Bool.and_eq_true, decide_eq_true_eq] at hj
      exact ⟨by show 1 ≤ 12; omega, by show 12 ≤ t.length; omega, Nat.le_trans (hx _) (by show 4 ≤ 12; omega)⟩
    split
    · intro _; exact ⟨by show 1 ≤ 6; omega, by show 6 ≤ t.length; omega, Nat.le_trans (hx 65533) (by show 4 ≤ 6; omega)⟩
    · intro _; exact ⟨by show 1 ≤ 6; omega, by show 6 ≤ t.length; omega, Nat.le_trans (hx _) (by show 4 ≤ 6; omega)⟩
  split
  · unfold joX
    split
    · intro h; cases h
    · intro _; exact ⟨by show 1 ≤ 4; omega, by show 4 ≤ t.length; omega, hx _⟩
  split
  · intro _; exact ⟨by show 1 ≤ 2; omega, by show 2 ≤ t.length; omega, by simp⟩
  split
  · intro h; cases h
  · intro _; exact ⟨by show 1 ≤ 2; omega, by show 2 ≤ t.length; omega, by simp⟩
theorem layJd0_ok : (layJd0 joS).OK Tryz.prog := b0_ok (Lay.nil_ok.addF joTold_ok)
def endC (c : UInt8) : Bool := bif bif bif c == 10 then true else c == 13 then true else c == 34 then true else c == 39
def jdF : Nat → List UInt8 → List (List UInt8) × Bool × Nat
  | 0, _ => ([], true, 0)
  | m + 1, t => if t = [] then ([], true, 0) else
    if t.getD 0 0 = 92 then (if (joS t).2.2 = false then ([], false, 0) else ((joS t).1 :: (jdF m (t.drop (joS t).2.1)).1, (jdF m (t.drop (joS t).2.1)).2.1, (jdF m (t.drop (joS t).2.1)).2.2 + (joS t).2.1)) else
    if endC (t.getD 0 0) = true then ([], false, 0) else ([t.getD 0 0] :: (jdF m (t.drop 1)).1, (jdF m (t.drop 1)).2.1, (jdF m (t.drop 1)).2.2 + 1)
def jdOk (s : List UInt8) : Bool := (jdF s.length s).2.1
def jdAt (s : List UInt8) : Int := ((jdF s.length s).2.2 : Nat)
def jdE (x : Bld) (s : List UInt8) : Bld := x.adds (jdF s.length s).1
noncomputable abbrev jdTurn := lturn Tryz.prog (layJd0 joS) (jdFH jdOk jdAt jdE) 22 3 [0,5,6] [] [0,2,3,4,5] []
theorem jd_runs (s : List UInt8) (hs : s.length ≤ 1073741824) : ∀ (m i : Nat) (x : Bld), s.length - i ≤ m → i ≤ s.length → x.can 0 2 → x.t.length ≤ i →
    ((jdF m (s.drop i)).2.1 = true → LoopRuns jdTurn 59 [0,5,6] [] [0,2,3,4,5] [] [.str s, .ptr (.hp 0) 0, .int .i64 (i : Nat)] [] (b0H.mk x).heap (.exit 0) [.str s, .undef, .undef, .undef, .ptr (.hp 0) 0] [] (b0H.mk (x.adds (jdF m (s.drop i)).1)).heap) ∧
    ((jdF m (s.drop i)).2.1 = false → LoopRuns jdTurn 59 [0,5,6] [] [0,2,3,4,5] [] [.str s, .ptr (.hp 0) 0, .int .i64 (i : Nat)] [] (b0H.mk x).heap .ret [.str s, .str [], .int .i64 ((i + (jdF m (s.drop i)).2.2 : Nat) : Int), .int .i64 33, .ptr (.hp 0) 0] [] (b0H.mk (x.adds (jdF m (s.drop i)).1)).heap) := by
  have out : ∀ (m i : Nat) (x : Bld), s.length ≤ i → (jdF m (s.drop i)) = ([], true, 0) ∧ LoopRuns jdTurn 59 [0,5,6] [] [0,2,3,4,5] [] [.str s, .ptr (.hp 0) 0, .int .i64 (i : Nat)] [] (b0H.mk x).heap (.exit 0) [.str s, .undef, .undef, .undef, .ptr (.hp 0) 0] [] (b0H.mk x).heap := fun m i x hi => by
    refine ⟨?_, .stop (by simp) (fun D k => (jd_step joS jdOk jdAt jdE x s i D k _ rfl _ rfl _ rfl _ rfl _ rfl _ rfl _ rfl _ rfl _ rfl).trans ?_)⟩
    · rw [List.drop_eq_nil_of_le hi]
      cases m with
      | zero => rfl
      | succ m => rw [jdF, if_pos rfl]
    · rw [dF (show ¬ (i : Int) < s.length by omega), cond_false]
  intro m
  induction m with
  | zero =>
    intro i x hm hi hx ht
    obtain ⟨e, r⟩ := out 0 i x (by omega)
    rw [e]
    exact ⟨fun _ => r, fun h => by cases h⟩
  | succ m ih =>
    intro i x hm hi hx ht
    by_cases hlt : i < s.length
    case neg =>
      obtain ⟨e, r⟩ := out (m + 1) i x (by omega)
      rw [e]
      exact ⟨fun _ => r, fun h => by cases h⟩
    have hd : (s.drop i).length = s.length - i := List.length_drop
    have hne : s.drop i ≠ [] := fun e => by rw [e] at hd; simp at hd; omega
    have hg : (s.drop i).getD 0 0 = s.getD i 0 := by rw [List.getD_drop]; rfl
    have w1 : IntKind.i64.wrap ((i : Int) + 1) = ((i + 1 : Nat) : Int) := wrap_add1 (by omega)
    have q92 : (((s.getD i 0).toNat : Int) == 92) = (s.getD i 0 == 92) := eqc (by decide)
    have q10 : (((s.getD i 0).toNat : Int) == 10) = (s.getD i 0 == 10) := eqc (by decide)
    have q13 : (((s.getD i 0).toNat : Int) == 13) = (s.getD i 0 == 13) := eqc (by decide)
    have q34 : (((s.getD i 0).toNat : Int) == 34) = (s.getD i 0 == 34) := eqc (by decide)
    have q39 : (((s.getD i 0).toNat : Int) == 39) = (s.getD i 0 == 39) := eqc (by decide)
    have hci : decide ((i : Int) < s.length) = true := dT (by omega)
    have key := fun D k => jd_step joS jdOk jdAt jdE x s i D k _ hci.symm _ rfl x.t rfl _ rfl (joS (s.drop i)).1 (by rw [Int.toNat_natCast]) _ rfl (s.getD i 0) (by simp) _ rfl _ rfl
    simp only [Int.toNat_natCast, q92, q10, q13, q34, q39, w1, dT (show (0 : Int) ≤ (i : Int) by omega), Bool.and_self, cond_true] at key
    rw [jdF, if_neg hne, hg]
    simp only [List.drop_drop]
    by_cases h92 : s.getD i 0 = 92
    · rw [if_pos h92]
      have hb : (s.getD i 0 == 92) = true := by rw [h92]; rfl
      simp only [hb, cond_true] at key
      replace key := fun D k => (key D k).trans ((congrArg (fun b => cond b _ none) (dT ⟨by omega, by omega, by omega⟩)).trans (cond_true _ _))
      cases hc : (joS (s.drop i)).2.2 with
      | false =>
        rw [if_pos rfl]
        refine ⟨fun h => (by cases h), fun _ => .stop (by simp) (fun D k => (key D k).trans ?_)⟩
        rw [hc]
        rfl
      | true =>
        rw [if_neg (by simp)]
        obtain ⟨o1, o2, o3⟩ := joS_ok (s.drop i) hc
        have wn : IntKind.i64.wrap ((i : Int) + (((joS (s.drop i)).2.1 : Nat) : Int)) = ((i + (joS (s.drop i)).2.1 : Nat) : Int) := by rw [wrap_of (by omega) (by omega)]; omega
        simp only [wn] at key
        replace key := fun D k => (key D k).trans ((congrArg (fun b => cond b _ _) (show (!(joS (s.drop i)).2.2) = false by rw [hc]; rfl)).trans ((cond_false _ _).trans
          ((congrArg (fun b => cond b _ none) (tst_true ⟨⟨hx, by omega⟩, .refl _, by trivial⟩)).trans (cond_true _ _))))
        obtain ⟨r1, r2⟩ := ih (i + (joS (s.drop i)).2.1) (x.add 0 2 (joS (s.drop i)).1) (by omega) (by omega) (Bld.add_can hx _) (by rw [Bld.add_t, List.length_append]; omega)
        refine ⟨fun h => .step key (r1 h), fun h => ?_⟩
        have := r2 h
        rw [show i + (joS (s.drop i)).2.1 + (jdF m (List.drop (i + (joS (s.drop i)).2.1) s)).2.2 = i + ((jdF m (List.drop (i + (joS (s.drop i)).2.1) s)).2.2 + (joS (s.drop i)).2.1) by omega] at this
        exact .step key this
    · rw [if_neg h92]
      have hb : (s.getD i 0 == 92) = false := beq_false_of_ne h92
      simp only [hb, cond_false] at key
      have he : endC (s.getD i 0) = (bif bif bif s.getD i 0 == 10 then true else s.getD i 0 == 13 then true else s.getD i 0 == 34 then true else s.getD i 0 == 39) := rfl
      simp only [← he] at key
      cases hc : endC (s.getD i 0) with
      | true =>
        rw [if_pos rfl]
        refine ⟨fun h => (by cases h), fun _ => .stop (by simp) (fun D k => (key D k).trans ?_)⟩
        rw [hc]
        rfl
      | false =>
        rw [if_neg (by simp)]
        simp only [hc, cond_false] at key
        replace key := fun D k => (key D k).trans ((congrArg (fun b => cond b _ none) (tst_true ⟨⟨hx, by omega⟩, .refl _, by trivial⟩)).trans (cond_true _ _))
        obtain ⟨r1, r2⟩ := ih (i + 1) (x.add 0 2 [s.getD i 0]) (by omega) (by omega) (Bld.add_can hx _) (by rw [Bld.add_t, List.length_append]; simp only [List.length_singleton]; omega)
        refine ⟨fun h => .step key (r1 h), fun h => ?_⟩
        have := r2 h
        rw [show i + 1 + (jdF m (List.drop (i + 1) s)).2.2 = i + ((jdF m (List.drop (i + 1) s)).2.2 + 1) by omega] at this
        exact .step key this
theorem jdSp_ok : SpOK jdTurn 59 [0,5,6] [] [0,2,3,4,5] [] (pdSp jdOk jdAt jdE) := mkL_ok fun a h => by
  obtain ⟨x, s, i⟩ := a
  obtain ⟨h1, h2, h3, h4⟩ := h
  simp only at h1 h2 h3 h4
  subst h3
  obtain ⟨r1, r2⟩ := jd_runs s h4 s.length 0 x (by omega) (by omega) h1 (by omega)
  rw [List.drop_zero] at r1 r2
  show ∃ e vs bs H', (∀ k : AExit → List AVal → List (List AVal) → Heap → Ans, cond (jdOk s) _ _ = k e vs bs H') ∧ _
  cases ho : jdOk s with
  | true => exact ⟨_, _, _, _, fun k => rfl, r1 ho⟩
  | false =>
    have := r2 ho
    rw [Nat.zero_add] at this
    exact ⟨_, _, _, _, fun k => rfl, this⟩
theorem layJd_ok : (layJd joS jdOk jdAt jdE).OK Tryz.prog := layJd0_ok.loop1 (id := 3) (by kernel_rfl) (by kernel_rfl) (by kernel_rfl) jdSp_ok
theorem jdF_len : ∀ (m : Nat) (t : List UInt8), t.length ≤ m → (jdF m t).1.flatten.length ≤ t.length
  | 0, t, _ => by simp [jdF]
  | m + 1, t, h => by
    rw [jdF]
    split
    · simp
    · rename_i hne
      have hl : 0 < t.length := List.length_pos_iff.2 hne
      split
      · split
        · simp
        · rename_i hc
          have hc : (joS t).2.2 = true := by simpa using hc
          obtain ⟨o1, o2, o3⟩ := joS_ok t hc
          have := jdF_len m (t.drop (joS t).2.1) (by rw [List.length_drop]; omega)
          rw [List.length_drop] at this
          simp only [List.flatten_cons, List.length_append]
          omega
      · split
        · simp
        · have := jdF_len m (t.drop 1) (by rw [List.length_drop]; omega)
          rw [List.length_drop] at this
          simp only [List.flatten_cons, List.length_append, List.length_singleton]
          omega
def jdT (s : List UInt8) : List UInt8 := bif jdOk s then (jdF s.length s).1.flatten else []
def jdI (s : List UInt8) : Int := bif jdOk s then (s.length : Int) else jdAt s
def jdEr (s : List UInt8) : Int := bif jdOk s then 0 else 33
theorem jd_ok (s : List UInt8) (hs : s.length ≤ 1073741824) : CallOK Tryz.prog 22 [.str s] [] (.ret (.tuple [.str (jdT s), .int .i64 (jdI s), .int .i64 (jdEr s)]) []) := by
  have c1 : (jdE Bld.new s).can 0 2 := Bld.adds_can _ (Bld.new_can 0 2)
  have t1 : (jdE Bld.new s).t = (jdF s.length s).1.flatten := by unfold jdE; rw [Bld.adds_t]; rfl
  have hl := jdF_len s.length s (Nat.le_refl _)
  unfold jdT jdI jdEr
  have key := fun k => (jd_fun joS jdOk jdAt jdE s k _ rfl (jdE Bld.new s).t rfl).trans
    ((congrArg (fun c => cond c _ none) (tst_true ⟨⟨Bld.new_can 0 2, rfl, rfl, hs⟩, .refl _, by trivial⟩)).trans (cond_true _ _))
  cases ho : jdOk s with
  | true =>
    simp only [ho, cond_true] at key ⊢
    rw [← t1]
    exact layJd_ok.callF rfl (fun k => (key k).trans ((congrArg (fun c => cond c _ none) (tst_true ⟨⟨c1, by rw [t1]; omega⟩, .refl _, by trivial⟩)).trans (cond_true _ _)))
  | false =>
    simp only [ho, cond_false] at key ⊢
    exact layJd_ok.callF rfl key
end Go.Mu
set_option linter.unusedVariables false
set_option linter.unusedSimpArgs false
set_option maxRecDepth 100000
namespace Go.Mu
open Go Go.Proofs
theorem rhex2_fun (n : Int) (k : Out → Ans) : iFun Tryz.prog (Lay.nil.hd Tryz.prog) Lay.nil.fhs 9 58 [.int .i64 n, .int .i64 2] [] k = (
 let c0 : Bool := !(IntKind.u64.wrap n == IntKind.u64.wrap n && false);
 let n1 : Int := IntKind.i64.wrap ((IntKind.u64.wrap n).tmod 16);
 let n2 : Int := IntKind.i64.wrap (n1 + 1);
 let l3 : List UInt8 :=
  List.drop n1.toNat (List.take n2.toNat [48, 49, 50, 51, 52, 53, 54, 55, 56, 57, 97, 98, 99, 100, 101, 102]);
 let n4 : Int := IntKind.u64.wrap ((IntKind.u64.wrap n).tdiv 16);
 let c5 : Bool := !(n4 == n4 && false);
 let n6 : Int := IntKind.i64.wrap (n4.tmod 16);
 let n7 : Int := IntKind.i64.wrap (n6 + 1);
 let l8 : List UInt8 :=
  List.drop n6.toNat (List.take n7.toNat [48, 49, 50, 51, 52, 53, 54, 55, 56, 57, 97, 98, 99, 100, 101, 102]);
 let l9 : List UInt8 := l3.append [];
  bif c0 then
  bif decide (0 ≤ n1) && decide (n1 ≤ n2) && decide (n2 ≤ 16) then
  bif decide (l3.length + 0 ≤ 4611686018427387904) then
  bif c0 then
  bif c5 then
  bif decide (0 ≤ n6) && decide (n6 ≤ n7) && decide (n7 ≤ 16) then
  bif decide (l8.length + l9.length ≤ 4611686018427387904) then
  bif c5 then k (Out.ret (AVal.str (l8.append l9)) []) else none
  else none
  else none
  else none
  else none
  else none
  else none
  else none) := by kernel_rfl
theorem rhex4_fun (n : Int) (k : Out → Ans) : iFun Tryz.prog (Lay.nil.hd Tryz.prog) Lay.nil.fhs 9 58 [.int .i64 n, .int .i64 4] [] k = (
 let c0 : Bool := !(IntKind.u64.wrap n == IntKind.u64.wrap n && false);
 let n1 : Int := IntKind.i64.wrap ((IntKind.u64.wrap n).tmod 16);
 let n2 : Int := IntKind.i64.wrap (n1 + 1);
 let l3 : List UInt8 :=
  List.drop n1.toNat (List.take n2.toNat [48, 49, 50, 51, 52, 53, 54, 55, 56, 57, 97, 98, 99, 100, 101, 102]);
 let n4 : Int := IntKind.u64.wrap ((IntKind.u64.wrap n).tdiv 16);
 let c5 : Bool := !(n4 == n4 && false);
 let n6 : Int := IntKind.i64.wrap (n4.tmod 16);
 let n7 : Int := IntKind.i64.wrap (n6 + 1);
 let l8 : List UInt8 :=
  List.drop n6.toNat (List.take n7.toNat [48, 49, 50, 51, 52, 53, 54, 55, 56, 57, 97, 98, 99, 100, 101, 102]);
 let l9 : List UInt8 := l3.append [];
 let n10 : Int := IntKind.u64.wrap (n4.tdiv 16);
 let c11 : Bool := !(n10 == n10 && false);
 let n12 : Int := IntKind.i64.wrap (n10.tmod 16);
 let n13 : Int := IntKind.i64.wrap (n12 + 1);
 let l14 : List UInt8 :=
  List.drop n12.toNat (List.take n13.toNat [48, 49, 50, 51, 52, 53, 54, 55, 56, 57, 97, 98, 99, 100, 101, 102]);
 let l15 : List UInt8 := l8.append l9;
 let n16 : Int := IntKind.u64.wrap (n10.tdiv 16);
 let c17 : Bool := !(n16 == n16 && false);
 let n18 : Int := IntKind.i64.wrap (n16.tmod 16);
 let n19 : Int := IntKind.i64.wrap (n18 + 1);
 let l20 : List UInt8 :=
  List.drop n18.toNat (List.take n19.toNat [48, 49, 50, 51, 52, 53, 54, 55, 56, 57, 97, 98, 99, 100, 101, 102]);
 let l21 : List UInt8 := l14.append l15;
  bif c0 then
  bif decide (0 ≤ n1) && decide (n1 ≤ n2) && decide (n2 ≤ 16) then
  bif decide (l3.length + 0 ≤ 4611686018427387904) then
  bif c0 then
  bif c5 then
  bif decide (0 ≤ n6) && decide (n6 ≤ n7) && decide (n7 ≤ 16) then
  bif decide (l8.length + l9.length ≤ 4611686018427387904) then
  bif c5 then
  bif c11 then
  bif decide (0 ≤ n12) && decide (n12 ≤ n13) && decide (n13 ≤ 16) then
  bif decide (l14.length + l15.length ≤ 4611686018427387904) then
  bif c11 then
  bif c17 then
  bif decide (0 ≤ n18) && decide (n18 ≤ n19) && decide (n19 ≤ 16) then
  bif decide (l20.length + l21.length ≤ 4611686018427387904) then
  bif c17 then k (Out.ret (AVal.str (l20.append l21)) []) else none
  else none
  else none
  else none
  else none
  else none
  else none
  else none
  else none
  else none
  else none
  else none
  else none
  else none
  else none
  else none) := by kernel_rfl
noncomputable def layUr : Lay := ((Lay.nil.addF 45 (octTold rLtr)).addF 46 (octTold rDgt)).addF 43 (hasTold anyI)
theorem unr_fun (n : Int) (k : Out → Ans) : iFun Tryz.prog (layUr.hd Tryz.prog) layUr.fhs 0 55 [.int .u8 n] [] k = (
  k
  (Out.ret
  (AVal.bool
  (bif
  bif bif bif bif rLtr n then true else rDgt n then true else n == 45 then true else n == 46 then true
  else n == 95 then
  true
  else n == 126))
      [])) := by kernel_rfl
theorem res_fun (n : Int) (k : Out → Ans) : iFun Tryz.prog (layUr.hd Tryz.prog) layUr.fhs 0 56 [.int .u8 n] [] k = (
  k (Out.ret (AVal.bool (anyI [33, 35, 36, 38, 42, 43, 44, 47, 58, 59, 61, 63, 64, 91, 93] n)) [])) := by kernel_rfl
theorem bare_fun (n : Int) (k : Out → Ans) : iFun Tryz.prog (layUr.hd Tryz.prog) layUr.fhs 0 59 [.int .i64 n] [] k = (
  k
  (Out.ret
  (AVal.bool
  (bif bif decide (n < 128) then decide (n ≥ 0) else false then
  bif
  bif
  bif bif bif rLtr (IntKind.u8.wrap n) then true else rDgt (IntKind.u8.wrap n) then true else n == 32 then
  true
  else n == 95 then
  true
  else n == 46 then
  true
  else n == 44
  else false))
      [])) := by kernel_rfl
noncomputable def layCo : Lay := Lay.nil.addF 80 (runTold' runQ)
theorem rcoded_fun (s : List UInt8) (i : Int) (k : Out → Ans) : iFun Tryz.prog (layCo.hd Tryz.prog) layCo.fhs 0 57 [.str s, .int .i64 i] [] k = (
 let n0 : Int := (↑s.length : Int);
 let n1 : Int := IntKind.i64.wrap (i + 1);
  bif decide (0 ≤ i) && decide (i < n0) then
  bif decide (s.length ≤ 1099511627776 ∧ 0 ≤ n1 ∧ n1 ≤ n0) then
  k
  (Out.ret
  (AVal.bool
  (bif bif (↑(s.getD i.toNat 0).toNat : Int) == 37 then decide (IntKind.i64.wrap (i + 2) < n0) else false then
  decide ((↑(runQ true (List.drop n1.toNat s)) : Int) ≥ 2)
  else false))
  [])
  else none
  else none) := by kernel_rfl
/- Percent -/
def hxTold (X : Int → Int → List UInt8) : FSp := mkFS [.i .i64, .i .i64] (fun xs => decide (0 ≤ aI xs 0 ∧ (aI xs 1 = 2 ∧ aI xs 0 ≤ 255 ∨ aI xs 1 = 4 ∧ aI xs 0 ≤ 65535))) (fun xs k => k (.ret (.str (X (aI xs 0) (aI xs 1))) []))
def obTold (B : Int → Bool) : FSp := mkFS [.i .u8] (fun xs => decide (0 ≤ aI xs 0 ∧ aI xs 0 ≤ 255)) (fun xs k => k (.ret (.bool (B (aI xs 0))) []))
noncomputable def layPc0 (X : Int → Int → List UInt8) (U V : Int → Bool) (C : List UInt8 → Bool) (R : List UInt8 → List UInt8) : Lay := ((((Lay.nil.addF 58 (hxTold X)).addF 55 (obTold U)).addF 56 (obTold V)).addF 57 (cdTold C)).addF 9 (ursTold R)
abbrev PcR := Bool → List UInt8 → List UInt8 × Nat
noncomputable def pcSp (P : PcR) : LSp := mkL (fun vs _ H => (aB vs 0, aS vs 1, (aI vs 3).toNat)) (fun x => x.2.2 = 0 ∧ x.2.1.length ≤ 1099511627776) (fun x => [.bool x.1, .str x.2.1, nilList, .int .i64 (x.2.2 : Nat)]) (fun _ => []) (fun _ => [])
  (fun x k => cond (x.2.1 == []) (k (.exit 0) [nilList] [] []) (k (.exit 0) [.own 0 0 (P x.1 x.2.1).1.length (P x.1 x.2.1).2 false] [] [.arr 1 ((P x.1 x.2.1).1.map byteRow) (P x.1 x.2.1).2]))
noncomputable def pcFH (P : PcR) : FH := .of [(4, loopSpec 52 [1,5,6,7] [] [6] [] (pcSp P))]
theorem pc_s0 (X : Int → Int → List UInt8) (U V : Int → Bool) (C : List UInt8 → Bool) (R : List UInt8 → List UInt8) (P : PcR) (b : Bool) (s : List UInt8) (i : Int) (D : List (FuncId × List AVal)) (k : Kont) : lturn Tryz.prog (layPc0 X U V C R) (pcFH P) 25 4 [1,5,6,7] [] [6] [] (stL 52 [1,5,6,7] [.bool b, .str s, nilList, .int .i64 i] [] [] [] D) k = (
 let c0 : Bool := decide (i < (↑s.length : Int));
 let c1 : Bool := decide (0 ≤ i) && c0;
 let n2 : Int := (↑(s.getD i.toNat 0).toNat : Int);
 let c3 : Bool := decide (0 ≤ n2 ∧ n2 ≤ 255);
 let c4 : Bool := U n2;
 let n5 : Int := IntKind.i64.wrap n2;
 let m6 : Nat := 0 + 1 + (List.map (fun (c : UInt8) => [AVal.int IntKind.u8 (↑c.toNat : Int)]) (X n5 2)).length;
  bif c0 then
  bif c1 then
  bif c3 then
  bif c1 || !(!c4 && b) then
  bif c3 then
  bif decide (0 ≤ i ∧ i < (↑s.length : Int) ∧ s.length ≤ 1099511627776) then
  bif bif c4 then true else bif b then bif V n2 then true else C (List.drop i.toNat s) else false then
  bif c1 then
  k AExit.normal
  (stL 52 [1, 5, 6, 7]
  [AVal.bool b, AVal.str s, AVal.own 0 0 (0 + 1) 0 false,
  AVal.int IntKind.i64 (IntKind.i64.wrap (i + 1))]
  [] [] [Obj.arr 1 [[AVal.int IntKind.u8 n2]] 0] D)
  else none
  else
  bif c1 then
  bif decide (0 ≤ n5 ∧ ((2 : Int) = 2 ∧ n5 ≤ 255 ∨ (2 : Int) = 4 ∧ n5 ≤ 65535)) then
  bif decide ((2 * m6 + 1000) * 1 ≤ 281474976710656) && true then
  k AExit.normal
  (stL 52 [1, 5, 6, 7]
  [AVal.bool b, AVal.str s, AVal.own 0 0 m6 1 false,
  AVal.int IntKind.i64 (IntKind.i64.wrap (i + 1))]
  [] []
  [Obj.arr 1
  ([AVal.int IntKind.u8 37] ::
  List.map (fun (c : UInt8) => [AVal.int IntKind.u8 (↑c.toNat : Int)]) (X n5 2))
  1]
  D)
  else none
  else none
  else none
  else none
  else none
  else none
  else none
  else none
  else k (AExit.exit 0) (stL 52 [6] [AVal.list true 0 fun (x : Nat) => []] [] [] [] D)) := by kernel_rfl
theorem pc_s1 (X : Int → Int → List UInt8) (U V : Int → Bool) (C : List UInt8 → Bool) (R : List UInt8 → List UInt8) (P : PcR) (b : Bool) (s : List UInt8) (i : Int) (q v : Nat) (rows : List (List AVal)) (D : List (FuncId × List AVal)) (k : Kont) : lturn Tryz.prog (layPc0 X U V C R) (pcFH P) 25 4 [1,5,6,7] [] [6] [] (stL 52 [1,5,6,7] [.bool b, .str s, .own 0 0 q v false, .int .i64 i] [] [] [.arr 1 rows v] D) k = (
 let c0 : Bool := decide (i < (↑s.length : Int));
 let c1 : Bool := decide (0 ≤ i) && c0;
 let n2 : Int := (↑(s.getD i.toNat 0).toNat : Int);
 let c3 : Bool := decide (0 ≤ n2 ∧ n2 ≤ 255);
 let c4 : Bool := U n2;
 let m5 : Nat := q + 1;
 let c6 : Bool := v == v && q == rows.length && decide ((2 * m5 + 1000) * 1 ≤ 281474976710656) && true;
 let m7 : Nat := v + 1;
 let n8 : Int := IntKind.i64.wrap n2;
 let m9 : Nat := m5 + (List.map (fun (c : UInt8) => [AVal.int IntKind.u8 (↑c.toNat : Int)]) (X n8 2)).length;
 let m10 : Nat := m7 + 1;
  bif c0 then
  bif c1 then
  bif c3 then
  bif c1 || !(!c4 && b) then
  bif c3 then
  bif decide (0 ≤ i ∧ i < (↑s.length : Int) ∧ s.length ≤ 1099511627776) then
  bif bif c4 then true else bif b then bif V n2 then true else C (List.drop i.toNat s) else false then
  bif c1 then
  bif c6 then
  k AExit.normal
  (stL 52 [1, 5, 6, 7]
  [AVal.bool b, AVal.str s, AVal.own 0 0 m5 m7 false,
  AVal.int IntKind.i64 (IntKind.i64.wrap (i + 1))]
  [] [] [Obj.arr 1 (rows.append [[AVal.int IntKind.u8 n2]]) m7] D)
  else none
  else none
  else
  bif c6 then
  bif c1 then
  bif decide (0 ≤ n8 ∧ ((2 : Int) = 2 ∧ n8 ≤ 255 ∨ (2 : Int) = 4 ∧ n8 ≤ 65535)) then
  bif
  m7 == m7 && m5 == (rows.append [[AVal.int IntKind.u8 37]]).length &&
  decide ((2 * m9 + 1000) * 1 ≤ 281474976710656) &&
  true then
  k AExit.normal
  (stL 52 [1, 5, 6, 7]
  [AVal.bool b, AVal.str s, AVal.own 0 0 m9 m10 false,
  AVal.int IntKind.i64 (IntKind.i64.wrap (i + 1))]
  [] []
  [Obj.arr 1
  ((rows.append [[AVal.int IntKind.u8 37]]).append
  (List.map (fun (c : UInt8) => [AVal.int IntKind.u8 (↑c.toNat : Int)]) (X n8 2)))
  m10]
  D)
  else none
  else none
  else none
  else none
  else none
  else none
  else none
  else none
  else none
  else k (AExit.exit 0) (stL 52 [6] [AVal.own 0 0 q v false] [] [] [Obj.arr 1 rows v] D)) := by kernel_rfl
noncomputable def layPc (X : Int → Int → List UInt8) (U V : Int → Bool) (C : List UInt8 → Bool) (R : List UInt8 → List UInt8) (P : PcR) : Lay := (layPc0 X U V C R).addL 25 (pcFH P)
theorem pc_fun (X : Int → Int → List UInt8) (U V : Int → Bool) (C : List UInt8 → Bool) (R : List UInt8 → List UInt8) (P : PcR) (b : Bool) (s : List UInt8) (k : Out → Ans) : iFun Tryz.prog ((layPc X U V C R P).hd Tryz.prog) (layPc X U V C R P).fhs 0 25 [.str s, .bool b] [] k = (
 let m0 : Nat := (P b (R s)).snd;
 let l1 : List UInt8 := (P b (R s)).fst;
 let m2 : Nat := l1.length;
  bif decide (s.length ≤ 1073741824) then
  bif
  tst
  ((Int.toNat 0 = 0 ∧ (R s).length ≤ 1099511627776) ∧
  SubTL [AVal.bool b, AVal.str (R s), AVal.list true 0 fun (x : Nat) => [], AVal.int IntKind.i64 0]
  [AVal.bool b, AVal.str (R s), AVal.list true 0 fun (x : Nat) => [],
  AVal.int IntKind.i64 (↑(Int.toNat 0) : Int)] ∧
  ([] : List (List AVal)) = [] ∧ ([] : Heap) = []) then
  bif R s == [] then k (Out.ret (AVal.str []) [])
  else
  bif
  m0 == m0 && true &&
  decide (0 + m2 ≤ (List.map (fun (c : UInt8) => [AVal.int IntKind.u8 (↑c.toNat : Int)]) l1).length) &&
  (List.take m2 (List.drop 0 (List.map (fun (c : UInt8) => [AVal.int IntKind.u8 (↑c.toNat : Int)]) l1))).all
  fun (r : List AVal) =>
  match r with
  | [v] => isInt IntKind.u8 v
  | x => false then
  k
  (Out.ret
  (AVal.str
  (List.map (fun (r : List AVal) => UInt8.ofNat (intOf (r.getD 0 AVal.undef)).toNat)
  (List.take m2 (List.drop 0 (List.map (fun (c : UInt8) => [AVal.int IntKind.u8 (↑c.toNat : Int)]) l1)))))
  [Obj.arr 1 (List.map (fun (c : UInt8) => [AVal.int IntKind.u8 (↑c.toNat : Int)]) l1) m0])
  else none
  else none
  else none) := by kernel_rfl
/- Inside -/
def bareTold (B : Int → Bool) : FSp := mkFS [.i .i64] (fun xs => true) (fun xs k => k (.ret (.bool (B (aI xs 0))) []))
noncomputable def layIn0 (X : Int → Int → List UInt8) (B : Int → Bool) (C : List UInt8 → List Int) : Lay := ((Lay.nil.addF 58 (hxTold X)).addF 59 (bareTold B)).addF 28 (rpcTold C)
def okCh2 (l : List Int) : Prop := ∀ c ∈ l, 0 ≤ c ∧ c ≤ 1114111
noncomputable def inSp (I : List Int → List UInt8) : LSp := mkL (fun vs _ H => (aS vs 0, decL (fun r => intOf (r.getD 0 .undef)) (vs.getD 1 .undef), (aI vs 2).toNat, fullOf (vs.getD 1 .undef))) (fun x => x.1.length = 0 ∧ x.2.2.1 = 0 ∧ x.2.1.length ≤ 1099511627776 ∧ okCh2 x.2.1) (fun x => [.str x.1, encL x.2.2.2 ichRow 0 x.2.1, .int .i64 x.2.2.1]) (fun _ => []) (fun _ => [])
  (fun x k => k (.exit 0) [.str (I x.2.1)] [] [])
noncomputable def inFH (I : List Int → List UInt8) : FH := .of [(4, loopSpec 53 [3,4,5] [] [3] [] (inSp I))]
theorem in_step (X : Int → Int → List UInt8) (B : Int → Bool) (C : List UInt8 → List Int) (I : List Int → List UInt8) (t : List UInt8) (f : Bool) (l : List Int) (i : Int) (D : List (FuncId × List AVal)) (k : Kont) : lturn Tryz.prog (layIn0 X B C) (inFH I) 26 4 [3,4,5] [] [3] [] (stL 53 [3,4,5] [.str t, encL f ichRow 0 l, .int .i64 i] [] [] [] D) k = (
 let c0 : Bool := decide (i < (↑l.length : Int));
 let n1 : Int := l.getD i.toNat 0;
 let c2 : Bool := decide (t.length + 2 ≤ 4611686018427387904);
 let n3 : Int := IntKind.i64.wrap (n1 - 65536);
 let c4 : Bool := !(n3 == n3 && false);
 let n5 : Int := IntKind.i64.wrap (55296 + IntKind.i64.wrap (n3.tdiv 1024));
 let l6 : List UInt8 := t.append [92, 117];
 let m7 : Nat := l6.length;
 let l8 : List UInt8 := X n5 4;
 let l9 : List UInt8 := l6.append l8;
 let n10 : Int := IntKind.i64.wrap (56320 + n3.tmod 1024);
 let l11 : List UInt8 := l9.append [92, 117];
 let l12 : List UInt8 := X n10 4;
 let l13 : List UInt8 := X n1 4;
  bif c0 then
  bif decide (0 ≤ i) && c0 then
  bif B n1 then
  bif decide (t.length + 1 ≤ 4611686018427387904) then
  k AExit.normal
  (stL 53 [3, 4, 5]
  [AVal.str (t.append [byteOf [AVal.int IntKind.u8 (IntKind.u8.wrap n1)]]),
  AVal.list f l.length fun (i : Nat) => ichRow (l.getD i 0),
  AVal.int IntKind.i64 (IntKind.i64.wrap (i + 1))]
  [] [] [] D)
  else none
  else
  bif decide (n1 ≥ 65536) then
  bif c2 then
  bif c4 then
  bif decide (0 ≤ n5 ∧ ((4 : Int) = 2 ∧ n5 ≤ 255 ∨ (4 : Int) = 4 ∧ n5 ≤ 65535)) then
  bif decide (m7 + l8.length ≤ 4611686018427387904) then
  bif decide (l9.length + 2 ≤ 4611686018427387904) then
  bif c4 then
  bif decide (0 ≤ n10 ∧ ((4 : Int) = 2 ∧ n10 ≤ 255 ∨ (4 : Int) = 4 ∧ n10 ≤ 65535)) then
  bif decide (l11.length + l12.length ≤ 4611686018427387904) then
  k AExit.normal
  (stL 53 [3, 4, 5]
  [AVal.str (l11.append l12), AVal.list f l.length fun (i : Nat) => ichRow (l.getD i 0),
  AVal.int IntKind.i64 (IntKind.i64.wrap (i + 1))]
  [] [] [] D)
  else none
  else none
  else none
  else none
  else none
  else none
  else none
  else none
  else
  bif c2 then
  bif decide (0 ≤ n1 ∧ ((4 : Int) = 2 ∧ n1 ≤ 255 ∨ (4 : Int) = 4 ∧ n1 ≤ 65535)) then
  bif decide (m7 + l13.length ≤ 4611686018427387904) then
  k AExit.normal
  (stL 53 [3, 4, 5]
  [AVal.str (l6.append l13), AVal.list f l.length fun (i : Nat) => ichRow (l.getD i 0),
  AVal.int IntKind.i64 (IntKind.i64.wrap (i + 1))]
  [] [] [] D)
  else none
  else none
  else none
  else none
  else k (AExit.exit 0) (stL 53 [3] [AVal.str t] [] [] [] D)) := by kernel_rfl
noncomputable def layIn (X : Int → Int → List UInt8) (B : Int → Bool) (C : List UInt8 → List Int) (I : List Int → List UInt8) : Lay := (layIn0 X B C).addL 26 (inFH I)
theorem in_fun (X : Int → Int → List UInt8) (B : Int → Bool) (C : List UInt8 → List Int) (I : List Int → List UInt8) (s : List UInt8) (k : Out → Ans) : iFun Tryz.prog ((layIn X B C I).hd Tryz.prog) (layIn X B C I).fhs 0 26 [.str s] [] k = (
 let m0 : Nat :=
  (decL (fun (r : List AVal) => intOf (r.getD 0 AVal.undef))
  (AVal.list false (C s).length fun (i : Nat) => ichRow ((C s).getD i 0))).length;
  bif decide (s.length ≤ 1099511627776) then
  bif
  tst
  ((0 = 0 ∧
  Int.toNat 0 = 0 ∧
  m0 ≤ 1099511627776 ∧
  okCh2
  (decL (fun (r : List AVal) => intOf (r.getD 0 AVal.undef))
  (AVal.list false (C s).length fun (i : Nat) => ichRow ((C s).getD i 0)))) ∧
  SubTL
  [AVal.str [], AVal.list false (C s).length fun (i : Nat) => ichRow ((C s).getD i 0),
  AVal.int IntKind.i64 0]
  [AVal.str [],
  AVal.list false m0 fun (i : Nat) =>
  ichRow
  ((decL (fun (r : List AVal) => intOf (r.getD 0 AVal.undef))
  (AVal.list false (C s).length fun (i : Nat) => ichRow ((C s).getD i 0))).getD
  i 0),
  AVal.int IntKind.i64 (↑(Int.toNat 0) : Int)] ∧
  ([] : List (List AVal)) = [] ∧ ([] : Heap) = []) then
  k
  (Out.ret
  (AVal.str
  (I
  (decL (fun (r : List AVal) => intOf (r.getD 0 AVal.undef))
  (AVal.list false (C s).length fun (i : Nat) => ichRow ((C s).getD i 0)))))
  [])
  else none
  else none) := by kernel_rfl
end Go.Mu
set_option linter.unusedVariables false
set_option linter.unusedSimpArgs false
set_option maxRecDepth 100000
namespace Go.Mu
open Go Go.Proofs
/- Hex -/
def hxd (d : Nat) : UInt8 := ([48, 49, 50, 51, 52, 53, 54, 55, 56, 57, 97, 98, 99, 100, 101, 102] : List UInt8).getD d 0
def hexB (n size : Int) : List UInt8 := if size = 2 then [hxd (n.toNat / 16 % 16), hxd (n.toNat % 16)] else [hxd (n.toNat / 4096 % 16), hxd (n.toNat / 256 % 16), hxd (n.toNat / 16 % 16), hxd (n.toNat % 16)]
theorem hexB_len (n size : Int) : (hexB n size).length ≤ 4 := by
  unfold hexB
  split <;> simp
theorem hexB_len2 (n : Int) : (hexB n 2).length = 2 := rfl
theorem dig1 (m : Nat) (h : m < 16) : List.drop m (List.take (m + 1) ([48, 49, 50, 51, 52, 53, 54, 55, 56, 57, 97, 98, 99, 100, 101, 102] : List UInt8)) = [hxd m] := by
  have key : ∀ m : Fin 16, List.drop m.val (List.take (m.val + 1) ([48, 49, 50, 51, 52, 53, 54, 55, 56, 57, 97, 98, 99, 100, 101, 102] : List UInt8)) = [hxd m.val] := by decide
  exact key ⟨m, h⟩
theorem u64_of {m : Nat} (h : m ≤ 65535) : IntKind.u64.wrap (m : Int) = (m : Int) := by
  have e : ∀ x : Int, IntKind.u64.wrap x = x % 18446744073709551616 := fun x => by simp [IntKind.wrap, IntKind.signed, IntKind.bits]
  rw [e]; omega
theorem tdiv_of (m c : Nat) : ((m : Int)).tdiv (c : Int) = ((m / c : Nat) : Int) := rfl
theorem tmod_of (m c : Nat) : ((m : Int)).tmod (c : Int) = ((m % c : Nat) : Int) := rfl
theorem hx_step (m : Nat) (h : m ≤ 65535) : IntKind.i64.wrap (((m : Int)).tmod 16) = ((m % 16 : Nat) : Int) ∧ IntKind.i64.wrap (((m % 16 : Nat) : Int) + 1) = ((m % 16 + 1 : Nat) : Int) ∧ IntKind.u64.wrap (((m : Int)).tdiv 16) = ((m / 16 : Nat) : Int) := by
  refine ⟨?_, wrap_add1 (by omega), ?_⟩
  · rw [show ((m : Int)).tmod 16 = ((m % 16 : Nat) : Int) from tmod_of m 16, wrap_of (by omega) (by omega)]
  · rw [show ((m : Int)).tdiv 16 = ((m / 16 : Nat) : Int) from tdiv_of m 16, u64_of (by omega)]
theorem hxTold_ok : ∀ xs H k out, hxTold hexB xs H k = some out → ∃ o, CallOK Tryz.prog 58 xs H o ∧ k o = some out := mkFS_ok fun ys xs e h => by
  obtain ⟨n, z, rfl⟩ : ∃ n z, xs = [.int .i64 n, .int .i64 z] := ⟨_, _, e⟩
  have h2 : 0 ≤ n ∧ (z = 2 ∧ n ≤ 255 ∨ z = 4 ∧ n ≤ 65535) := of_decide_eq_true h
  obtain ⟨m, rfl⟩ : ∃ m : Nat, n = m := ⟨n.toNat, by omega⟩
  have hm : m ≤ 65535 := by omega
  obtain ⟨a1, a2, a3⟩ := hx_step m hm
  obtain ⟨b1, b2, b3⟩ := hx_step (m / 16) (by omega)
  obtain ⟨c1, c2, c3⟩ := hx_step (m / 16 / 16) (by omega)
  obtain ⟨d1, d2, d3⟩ := hx_step (m / 16 / 16 / 16) (by omega)
  have u := u64_of hm
  have g : ∀ q : Nat, (decide ((0 : Int) ≤ ((q % 16 : Nat) : Int)) && decide (((q % 16 : Nat) : Int) ≤ ((q % 16 + 1 : Nat) : Int)) && decide (((q % 16 + 1 : Nat) : Int) ≤ 16)) = true := fun q => by rw [dT (by omega), dT (by omega), dT (by omega)]; rfl
  have s := fun q : Nat => dig1 (q % 16) (by omega)
  rcases h2.2 with ⟨rfl, _⟩ | ⟨rfl, _⟩
  · refine ⟨_, fun k => rfl, Lay.nil_ok.callN (G := []) 9 rfl (fun k => (rhex2_fun m k).trans ?_)⟩
    simp only [u, a1, a2, a3, b1, b2, Bool.and_false, Bool.not_false, cond_true, g, Int.toNat_natCast, s]
    rfl
  · refine ⟨_, fun k => rfl, Lay.nil_ok.callN (G := []) 9 rfl (fun k => (rhex4_fun m k).trans ?_)⟩
    simp only [u, a1, a2, a3, b1, b2, b3, c1, c2, c3, d1, d2, d3, Bool.and_false, Bool.not_false, cond_true, g, Int.toNat_natCast, s]
    show k (.ret (.str [hxd (m / 16 / 16 / 16 % 16), hxd (m / 16 / 16 % 16), hxd (m / 16 % 16), hxd (m % 16)]) []) = _
    rw [show m / 16 / 16 / 16 = m / 4096 by omega, show m / 16 / 16 = m / 256 by omega]
    rfl
/- which may stand -/
def unrM (n : Int) : Bool := bif bif bif bif bif rLtr n then true else rDgt n then true else n == 45 then true else n == 46 then true else n == 95 then true else n == 126
def resM (n : Int) : Bool := anyI [33, 35, 36, 38, 42, 43, 44, 47, 58, 59, 61, 63, 64, 91, 93] n
def bareM (n : Int) : Bool := bif bif decide (n < 128) then decide (n ≥ 0) else false then bif bif bif bif bif rLtr (IntKind.u8.wrap n) then true else rDgt (IntKind.u8.wrap n) then true else n == 32 then true else n == 95 then true else n == 46 then true else n == 44 else false
theorem layUr_ok : layUr.OK Tryz.prog := ((Lay.nil_ok.addF (octTold_ok rLetter_fun)).addF (octTold_ok rDigit_fun)).addF hasTold_ok
theorem unrTold_ok : ∀ xs H k out, obTold unrM xs H k = some out → ∃ o, CallOK Tryz.prog 55 xs H o ∧ k o = some out := mkFS_ok fun ys xs e h => by
  obtain ⟨n, rfl⟩ : ∃ n, xs = [.int .u8 n] := ⟨_, e⟩
  exact ⟨_, fun k => rfl, layUr_ok.callF (G := []) rfl (fun k => unr_fun n k)⟩
theorem resTold_ok : ∀ xs H k out, obTold resM xs H k = some out → ∃ o, CallOK Tryz.prog 56 xs H o ∧ k o = some out := mkFS_ok fun ys xs e h => by
  obtain ⟨n, rfl⟩ : ∃ n, xs = [.int .u8 n] := ⟨_, e⟩
  exact ⟨_, fun k => rfl, layUr_ok.callF (G := []) rfl (fun k => res_fun n k)⟩
theorem bareTold_ok : ∀ xs H k out, bareTold bareM xs H k = some out → ∃ o, CallOK Tryz.prog 59 xs H o ∧ k o = some out := mkFS_ok fun ys xs e h => by
  obtain ⟨n, rfl⟩ : ∃ n, xs = [.int .i64 n] := ⟨_, e⟩
  exact ⟨_, fun k => rfl, layUr_ok.callF (G := []) rfl (fun k => bare_fun n k)⟩
def rcdS (t : List UInt8) : Bool := bif bif t.getD 0 0 == 37 then decide (2 < t.length) else false then decide (2 ≤ runQ true (t.drop 1)) else false
theorem rcdTold_ok : ∀ xs H k out, cdTold rcdS xs H k = some out → ∃ o, CallOK Tryz.prog 57 xs H o ∧ k o = some out := mkFS_ok fun ys xs e h => by
  obtain ⟨s, n, rfl⟩ : ∃ s n, xs = [.str s, .int .i64 n] := ⟨_, _, e⟩
  have h2 : 0 ≤ n ∧ n < s.length ∧ s.length ≤ 1099511627776 := of_decide_eq_true h
  obtain ⟨i, rfl⟩ : ∃ i : Nat, n = i := ⟨n.toNat, by omega⟩
  have hL : layCo.OK Tryz.prog := Lay.nil_ok.addF runTold_ok'
  refine ⟨_, fun k => rfl, hL.callF (G := []) rfl (fun k => (rcoded_fun s i k).trans ?_)⟩
  have w1 : IntKind.i64.wrap ((i : Int) + 1) = ((i + 1 : Nat) : Int) := wrap_add1 (by omega)
  have w2 : IntKind.i64.wrap ((i : Int) + 2) = ((i + 2 : Nat) : Int) := by rw [wrap_of (by omega) (by omega)]; omega
  have q37 : (((s.getD i 0).toNat : Int) == 37) = (s.getD i 0 == 37) := eqc (by decide)
  show _ = k (.ret (.bool (rcdS (s.drop i))) [])
  have hd : (s.drop i).length = s.length - i := List.length_drop
  have hg : (s.drop i).getD 0 0 = s.getD i 0 := by rw [List.getD_drop]; rfl
  simp only [w1, w2, q37, Int.toNat_natCast, dT (show (0 : Int) ≤ (i : Int) by omega), dT (show (i : Int) < s.length by omega), Bool.and_self, cond_true]
  refine (congrArg (fun b => cond b _ none) (dT ⟨by omega, by omega, by omega⟩)).trans ((cond_true _ _).trans ?_)
  unfold rcdS
  rw [hg, hd, List.drop_drop]
  have e1 : decide (((i + 2 : Nat) : Int) < (s.length : Int)) = decide (2 < s.length - i) := by
    by_cases hx : 2 < s.length - i
    · rw [dT hx, dT (by omega)]
    · rw [dF hx, dF (by omega)]
  have e2 : decide ((↑(runQ true (List.drop (i + 1) s)) : Int) ≥ 2) = decide (2 ≤ runQ true (List.drop (i + 1) s)) := by
    by_cases hx : 2 ≤ runQ true (List.drop (i + 1) s)
    · rw [dT hx, dT (by omega)]
    · rw [dF hx, dF (by omega)]
  rw [e1, e2]
/- Percent -/
def pcMay (b : Bool) (t : List UInt8) (i : Nat) : Bool := bif unrM ((t.getD i 0).toNat : Int) then true else bif b then (bif resM ((t.getD i 0).toNat : Int) then true else rcdS (t.drop i)) else false
def pcG (b : Bool) (t : List UInt8) (i : Nat) : List UInt8 := bif pcMay b t i then [t.getD i 0] else 37 :: hexB (t.getD i 0).toNat 2
def pcW (b : Bool) (t : List UInt8) : Nat → Nat
  | 0 => 0
  | i + 1 => pcW b t i + (bif pcMay b t i then 1 else 2)
def pcT (b : Bool) (t : List UInt8) (i : Nat) : List UInt8 := (List.range i).flatMap (pcG b t)
theorem pcG_len (b : Bool) (t : List UInt8) (i : Nat) : (pcG b t i).length ≤ 3 := by
  unfold pcG
  have := hexB_len2 ((t.getD i 0).toNat : Int)
  cases pcMay b t i
  · simp only [cond_false, List.length_cons, this]; omega
  · simp
def pcRR : PcR := fun b t => (pcT b t t.length, pcW b t t.length - 1)
noncomputable abbrev pcTurn := lturn Tryz.prog (layPc0 hexB unrM resM rcdS rpP) (pcFH pcRR) 25 4 [1,5,6,7] [] [6] []
theorem pcW_pos (b : Bool) (t : List UInt8) (i : Nat) : 1 ≤ pcW b t (i + 1) := by
  unfold pcW
  cases pcMay b t i <;> simp <;> omega
theorem pc_rd0 (b : Bool) (t : List UInt8) (h : 0 < t.length) (ht : t.length ≤ 1099511627776) (D : List (FuncId × List AVal)) (k : Kont) :
    pcTurn (stL 52 [1,5,6,7] [.bool b, .str t, nilList, .int .i64 ((0 : Nat) : Int)] [] [] [] D) k = k .normal (stL 52 [1,5,6,7] [.bool b, .str t, .own 0 0 (pcT b t 1).length (pcW b t 1 - 1) false, .int .i64 ((1 : Nat) : Int)] [] [] [.arr 1 ((pcT b t 1).map byteRow) (pcW b t 1 - 1)] D) := by
  refine (pc_s0 hexB unrM resM rcdS rpP pcRR b t ((0 : Nat) : Int) D k).trans ?_
  have e1 : IntKind.i64.wrap (((0 : Nat) : Int) + 1) = ((1 : Nat) : Int) := wrap_add1 (by omega)
  have hb := (t.getD 0 0).toNat_lt
  have wn : IntKind.i64.wrap ((t.getD 0 0).toNat : Int) = ((t.getD 0 0).toNat : Int) := wrap_of (by omega) (by omega)
  have hx := hexB_len2 ((t.getD 0 0).toNat : Int)
  have eT : pcT b t 1 = pcG b t 0 := by unfold pcT; rw [show (1 : Nat) = 0 + 1 from rfl, range_flat]; rfl
  have eW : pcW b t 1 = (bif pcMay b t 0 then 1 else 2) := by unfold pcW pcW; rw [Nat.zero_add]
  rw [eT, eW]
  simp only [Int.toNat_natCast, e1, wn, dT (show ((0 : Nat) : Int) < t.length by omega), dT (show (0 : Int) ≤ ((0 : Nat) : Int) by omega), dT (show (0 : Int) ≤ ((t.getD 0 0).toNat : Int) ∧ ((t.getD 0 0).toNat : Int) ≤ 255 by omega), dT (show (0 : Int) ≤ ((0 : Nat) : Int) ∧ ((0 : Nat) : Int) < t.length ∧ t.length ≤ 1099511627776 by omega), Bool.and_self, Bool.true_or, cond_true]
  show cond (pcMay b t 0) _ _ = _
  unfold pcG
  cases pcMay b t 0 with
  | true => rfl
  | false =>
    refine (congrArg (fun c => cond c _ none) (dT ⟨by omega, .inl ⟨by trivial, by omega⟩⟩)).trans ((cond_true _ _).trans ?_)
    rw [List.length_map, hx]
    rfl
theorem pc_rd1 (b : Bool) (t : List UInt8) (ht : t.length ≤ 1099511627776) (i : Nat) (h : i + 1 < t.length) (D : List (FuncId × List AVal)) (k : Kont) :
    pcTurn (stL 52 [1,5,6,7] [.bool b, .str t, .own 0 0 (pcT b t (i + 1)).length (pcW b t (i + 1) - 1) false, .int .i64 ((i + 1 : Nat) : Int)] [] [] [.arr 1 ((pcT b t (i + 1)).map byteRow) (pcW b t (i + 1) - 1)] D) k = k .normal (stL 52 [1,5,6,7] [.bool b, .str t, .own 0 0 (pcT b t (i + 2)).length (pcW b t (i + 2) - 1) false, .int .i64 ((i + 2 : Nat) : Int)] [] [] [.arr 1 ((pcT b t (i + 2)).map byteRow) (pcW b t (i + 2) - 1)] D) := by
  refine (pc_s1 hexB unrM resM rcdS rpP pcRR b t ((i + 1 : Nat) : Int) _ _ _ D k).trans ?_
  have e1 : IntKind.i64.wrap (((i + 1 : Nat) : Int) + 1) = ((i + 2 : Nat) : Int) := wrap_add1 (by omega)
  have hb := (t.getD (i + 1) 0).toNat_lt
  have wn : IntKind.i64.wrap ((t.getD (i + 1) 0).toNat : Int) = ((t.getD (i + 1) 0).toNat : Int) := wrap_of (by omega) (by omega)
  have hx := hexB_len2 ((t.getD (i + 1) 0).toNat : Int)
  have hl := flat_len (pcG b t) 3 (pcG_len b t) (List.range (i + 1))
  rw [List.length_range] at hl
  have hl : (pcT b t (i + 1)).length ≤ 3 * (i + 1) := hl
  have hp := pcW_pos b t i
  have eT : pcT b t (i + 2) = pcT b t (i + 1) ++ pcG b t (i + 1) := by unfold pcT; rw [range_flat]
  have eW : pcW b t (i + 2) = pcW b t (i + 1) + (bif pcMay b t (i + 1) then 1 else 2) := rfl
  rw [eT, eW]
  generalize pcT b t (i + 1) = T at hl ⊢
  generalize pcW b t (i + 1) = w at hp ⊢
  simp only [Int.toNat_natCast, e1, wn, List.length_map, beq_self_eq_true, dT (show ((i + 1 : Nat) : Int) < t.length by omega), dT (show (0 : Int) ≤ ((i + 1 : Nat) : Int) by omega), dT (show (0 : Int) ≤ ((t.getD (i + 1) 0).toNat : Int) ∧ ((t.getD (i + 1) 0).toNat : Int) ≤ 255 by omega), dT (show (0 : Int) ≤ ((i + 1 : Nat) : Int) ∧ ((i + 1 : Nat) : Int) < t.length ∧ t.length ≤ 1099511627776 by omega), dT (show (2 * (T.length + 1) + 1000) * 1 ≤ 281474976710656 by omega), Bool.and_self, Bool.true_or, cond_true]
  show cond (pcMay b t (i + 1)) _ _ = _
  unfold pcG
  cases pcMay b t (i + 1) with
  | true =>
    simp only [cond_true, List.map_append, List.length_append, List.append_eq]
    rw [show w + 1 - 1 = w - 1 + 1 by omega]
    rfl
  | false =>
    simp only [cond_false]
    refine (congrArg (fun c => cond c _ none) (dT ⟨by omega, .inl ⟨by trivial, by omega⟩⟩)).trans ((cond_true _ _).trans ?_)
    have er : (T.length + 1 == ((T.map byteRow).append [[AVal.int IntKind.u8 37]]).length) = true := by
      rw [List.append_eq, List.length_append, List.length_map]; exact beq_self_eq_true _
    rw [er]
    simp only [hx, dT (show (2 * (T.length + 1 + 2) + 1000) * 1 ≤ 281474976710656 by omega), Bool.and_self, cond_true, List.map_append, List.length_append, List.append_eq, List.length_cons]
    rw [show w + 2 - 1 = w - 1 + 1 + 1 by omega, show T.length + (2 + 1) = T.length + 1 + 2 by omega, List.append_assoc]
    rfl
theorem pcSp_ok : SpOK pcTurn 52 [1,5,6,7] [] [6] [] (pcSp pcRR) := mkL_ok fun a h => by
  obtain ⟨b, t, i⟩ := a
  obtain ⟨h1, h2⟩ := h
  simp only at h1 h2
  subst h1
  show ∃ e vs bs H', (∀ k : AExit → List AVal → List (List AVal) → Heap → Ans, cond (t == []) _ _ = k e vs bs H') ∧ _
  by_cases h0 : t = []
  · subst h0
    exact ⟨_, _, _, _, fun k => rfl, .stop (by simp) (fun D k => (pc_s0 hexB unrM resM rcdS rpP pcRR b [] ((0 : Nat) : Int) D k).trans rfl)⟩
  · have hb : (t == []) = false := by simpa using h0
    have hl : 0 < t.length := List.length_pos_iff.2 h0
    rw [hb]
    refine ⟨_, _, _, _, fun k => rfl, ?_⟩
    obtain ⟨n, hn⟩ : ∃ n, t.length = n + 1 := ⟨t.length - 1, by omega⟩
    have key := seq_runs (turn := pcTurn) (n := 52) (l := [1,5,6,7]) (m := []) (lx := [6]) (mx := []) (e := .exit 0) (fun i => match i with | 0 => [.bool b, .str t, nilList, .int .i64 ((0 : Nat) : Int)] | i + 1 => [.bool b, .str t, .own 0 0 (pcT b t (i + 1)).length (pcW b t (i + 1) - 1) false, .int .i64 ((i + 1 : Nat) : Int)]) (fun _ => []) (fun i => match i with | 0 => [] | i + 1 => [.arr 1 ((pcT b t (i + 1)).map byteRow) (pcW b t (i + 1) - 1)]) (n + 1) (by simp)
      (fun i hi D k => match i with | 0 => pc_rd0 b t hl h2 D k | i + 1 => pc_rd1 b t h2 i (by omega) D k)
      (fun D k => by
        refine (pc_s1 hexB unrM resM rcdS rpP pcRR b t ((n + 1 : Nat) : Int) _ _ _ D k).trans ?_
        rw [dF (show ¬ ((n + 1 : Nat) : Int) < t.length by omega), cond_false])
    rw [← hn] at key
    exact key
theorem layPc0_ok : (layPc0 hexB unrM resM rcdS rpP).OK Tryz.prog := ((((Lay.nil_ok.addF hxTold_ok).addF unrTold_ok).addF resTold_ok).addF rcdTold_ok).addF rrTold_ok
theorem layPc_ok : (layPc hexB unrM resM rcdS rpP pcRR).OK Tryz.prog := layPc0_ok.loop1 (id := 4) (by kernel_rfl) (by kernel_rfl) (by kernel_rfl) pcSp_ok
def pcP (b : Bool) (s : List UInt8) : List UInt8 := pcT b (rpP s) (rpP s).length
theorem pcP_len (b : Bool) (s : List UInt8) : (pcP b s).length ≤ 12 * s.length := by
  have := flat_len (pcG b (rpP s)) 3 (pcG_len b (rpP s)) (List.range (rpP s).length)
  rw [List.length_range] at this
  have := rpP_len s
  unfold pcP pcT
  omega
theorem pc_ok (b : Bool) (s : List UInt8) (hs : s.length ≤ 1073741824) : CallOK Tryz.prog 25 [.str s, .bool b] [] (.ret (.str (pcP b s)) []) := by
  have hlen := rpP_len s
  have key := fun k => pc_fun hexB unrM resM rcdS rpP pcRR b s k
  simp only [dT hs, cond_true] at key
  replace key := fun k => (key k).trans ((congrArg (fun c => cond c _ none) (tst_true ⟨⟨rfl, by omega⟩, .refl _, by trivial⟩)).trans (cond_true _ _))
  cases hb : rpP s == [] with
  | true =>
    have h0 : rpP s = [] := by simpa using hb
    refine layPc_ok.callF (G := []) rfl (fun k => (key k).trans ?_)
    rw [hb, cond_true]
    show _ = k (.ret (.str (pcT b (rpP s) (rpP s).length)) [])
    rw [h0]; rfl
  | false =>
    refine layPc_ok.callF (G := [.arr 1 ((pcP b s).map byteRow) (pcW b (rpP s) (rpP s).length - 1)]) rfl (fun k => (key k).trans ?_)
    rw [hb, cond_false]
    exact fin_bytes (pcP b s) (pcW b (rpP s) (rpP s).length - 1) _ k
/- Inside -/
def inB (c : Int) : List UInt8 := if bareM c = true then [byteOf [.int .u8 (IntKind.u8.wrap c)]] else if c ≥ 65536 then [92, 117] ++ hexB (55296 + (c - 65536) / 1024) 4 ++ [92, 117] ++ hexB (56320 + (c - 65536) % 1024) 4 else [92, 117] ++ hexB c 4
theorem inB_len (c : Int) : (inB c).length ≤ 12 := by
  have h1 := hexB_len (55296 + (c - 65536) / 1024) 4
  have h2 := hexB_len (56320 + (c - 65536) % 1024) 4
  have h3 := hexB_len c 4
  unfold inB
  split
  · simp
  split
  · simp only [List.length_append, List.length_cons, List.length_nil]; omega
  · simp only [List.length_append, List.length_cons, List.length_nil]; omega
def inT (l : List Int) : List UInt8 := l.flatMap inB
noncomputable abbrev inTurn := lturn Tryz.prog (layIn0 hexB bareM chP) (inFH inT) 26 4 [3,4,5] [] [3] []
theorem in_rd (t : List UInt8) (ht : t.length ≤ 1000000000000000) (f : Bool) (l : List Int) (hl : l.length ≤ 1099511627776) (i : Nat) (hi : i < l.length) (hc : 0 ≤ l.getD i 0 ∧ l.getD i 0 ≤ 1114111) (D : List (FuncId × List AVal)) (k : Kont) :
    inTurn (stL 53 [3,4,5] [.str t, encL f ichRow 0 l, .int .i64 (i : Nat)] [] [] [] D) k = k .normal (stL 53 [3,4,5] [.str (t ++ inB (l.getD i 0)), encL f ichRow 0 l, .int .i64 ((i + 1 : Nat) : Int)] [] [] [] D) := by
  refine (in_step hexB bareM chP inT t f l i D k).trans ?_
  have e1 : IntKind.i64.wrap ((i : Int) + 1) = ((i + 1 : Nat) : Int) := wrap_add1 (by omega)
  simp only [e1, Int.toNat_natCast, Bool.and_false, Bool.not_false, dT (show (i : Int) < l.length by omega), dT (show (0 : Int) ≤ (i : Int) by omega), dT (show t.length + 2 ≤ 4611686018427387904 by omega), Bool.and_self, cond_true]
  unfold inB
  cases hb : bareM (l.getD i 0) with
  | true =>
    rw [if_pos rfl]
    exact (congrArg (fun b => cond b _ none) (dT (show t.length + 1 ≤ 4611686018427387904 by omega))).trans rfl
  | false =>
    rw [cond_false, if_neg (by simp)]
    by_cases h6 : (l.getD i 0) ≥ 65536
    · rw [if_pos h6]
      have w3 : IntKind.i64.wrap ((l.getD i 0) - 65536) = (l.getD i 0) - 65536 := wrap_of (by omega) (by omega)
      have td : ((l.getD i 0) - 65536).tdiv 1024 = ((l.getD i 0) - 65536) / 1024 := Int.tdiv_eq_ediv_of_nonneg (by omega)
      have tm : ((l.getD i 0) - 65536).tmod 1024 = ((l.getD i 0) - 65536) % 1024 := Int.tmod_eq_emod_of_nonneg (by omega)
      have w5 : IntKind.i64.wrap (55296 + IntKind.i64.wrap (((l.getD i 0) - 65536) / 1024)) = 55296 + ((l.getD i 0) - 65536) / 1024 := by rw [wrap_of (n := ((l.getD i 0) - 65536) / 1024) (by omega) (by omega), wrap_of (by omega) (by omega)]
      have w10 : IntKind.i64.wrap (56320 + ((l.getD i 0) - 65536) % 1024) = 56320 + ((l.getD i 0) - 65536) % 1024 := wrap_of (by omega) (by omega)
      have h1 := hexB_len (55296 + ((l.getD i 0) - 65536) / 1024) 4
      have h2 := hexB_len (56320 + ((l.getD i 0) - 65536) % 1024) 4
      simp only [w3, td, tm, w5, w10, dT h6, cond_true]
      refine (congrArg (fun b => cond b _ none) (dT ⟨by omega, .inr ⟨by trivial, by omega⟩⟩)).trans ((cond_true _ _).trans ?_)
      refine (congrArg (fun b => cond b _ none) (dT (by simp only [List.append_eq, List.length_append, List.length_cons, List.length_nil]; omega))).trans ((cond_true _ _).trans ?_)
      refine (congrArg (fun b => cond b _ none) (dT (by simp only [List.append_eq, List.length_append, List.length_cons, List.length_nil]; omega))).trans ((cond_true _ _).trans ?_)
      refine (congrArg (fun b => cond b _ none) (dT ⟨by omega, .inr ⟨by trivial, by omega⟩⟩)).trans ((cond_true _ _).trans ?_)
      refine (congrArg (fun b => cond b _ none) (dT (by simp only [List.append_eq, List.length_append, List.length_cons, List.length_nil]; omega))).trans ((cond_true _ _).trans ?_)
      simp only [List.append_eq, List.append_assoc]
    · rw [if_neg h6, dF h6, cond_false]
      have h3 := hexB_len (l.getD i 0) 4
      refine (congrArg (fun b => cond b _ none) (dT ⟨by omega, .inr ⟨by trivial, by omega⟩⟩)).trans ((cond_true _ _).trans ?_)
      refine (congrArg (fun b => cond b _ none) (dT (by simp only [List.append_eq, List.length_append, List.length_cons, List.length_nil]; omega))).trans ((cond_true _ _).trans ?_)
      simp only [List.append_eq, List.append_assoc]
theorem inSp_ok : SpOK inTurn 53 [3,4,5] [] [3] [] (inSp inT) := mkL_ok fun a h => by
  obtain ⟨t, l, i, f⟩ := a
  obtain ⟨h1, h2, h3, h4⟩ := h
  simp only at h1 h2 h3 h4
  subst h2
  obtain rfl : t = [] := List.eq_nil_of_length_eq_zero h1
  refine ⟨_, _, _, _, fun k => rfl, ?_⟩
  have key := seq_runs (turn := inTurn) (n := 53) (l := [3,4,5]) (m := []) (lx := [3]) (mx := []) (fun i => [.str ((l.take i).flatMap inB), encL f ichRow 0 l, .int .i64 (i : Nat)]) (fun _ => []) (fun _ => []) l.length (e := .exit 0) (by simp)
    (fun i hi D k => by
      have := flat_len_take inB 12 inB_len l i
      refine (in_rd _ (by omega) f l h3 i hi (h4 _ (by rw [List.getD_eq_getElem?_getD, List.getElem?_eq_getElem hi]; exact List.getElem_mem hi)) D k).trans ?_
      rw [take_flat l 0 inB i hi])
    (fun D k => by
      refine (in_step hexB bareM chP inT _ f l l.length D k).trans ?_
      rw [dF (show ¬ (l.length : Int) < l.length by omega), cond_false])
  rw [List.take_of_length_le (Nat.le_refl _)] at key
  exact key
theorem layIn0_ok : (layIn0 hexB bareM chP).OK Tryz.prog := ((Lay.nil_ok.addF hxTold_ok).addF bareTold_ok).addF rcTold_ok
theorem layIn_ok : (layIn hexB bareM chP inT).OK Tryz.prog := layIn0_ok.loop1 (id := 4) (by kernel_rfl) (by kernel_rfl) (by kernel_rfl) inSp_ok
def inP (s : List UInt8) : List UInt8 := inT (chP s)
theorem inP_len (s : List UInt8) : (inP s).length ≤ 12 * s.length := by
  have := flat_len inB 12 inB_len (chP s)
  have := chP_len s
  unfold inP inT
  omega
theorem in_ok (s : List UInt8) (hs : s.length ≤ 1099511627776) : CallOK Tryz.prog 26 [.str s] [] (.ret (.str (inP s)) []) := by
  have hd : decL (fun (r : List AVal) => intOf (r.getD 0 AVal.undef)) (AVal.list false (chP s).length fun (i : Nat) => ichRow ((chP s).getD i 0)) = chP s := decL_encL (fun a => rfl) (chP s)
  have hlen := chP_len s
  have hk : okCh2 (chP s) := fun c hc => by
    have := chP_ok s c hc
    omega
  have key := fun k => in_fun hexB bareM chP inT s k
  simp only [hd, dT hs, cond_true] at key
  exact layIn_ok.callF (G := []) rfl (fun k => (key k).trans ((congrArg (fun c => cond c _ none) (tst_true ⟨⟨by trivial, by trivial, by omega, hk⟩, .refl _, by trivial⟩)).trans (cond_true _ _)))
end Go.Mu
set_option linter.unusedVariables false
set_option linter.unusedSimpArgs false
set_option maxRecDepth 100000
namespace Go.Mu
open Go Go.Proofs
abbrev SSS := List UInt8 → List UInt8
abbrev SSI := List UInt8 → Int
def tS (R : SSS) (n : Nat) : FSp := mkFS [.s] (fun xs => decide ((aS xs 0).length ≤ n)) (fun xs k => k (.ret (.str (R (aS xs 0))) []))
def tD (T : SSS) (I E : SSI) : FSp := mkFS [.s] (fun xs => decide ((aS xs 0).length ≤ 1073741824)) (fun xs k => k (.ret (.tuple [.str (T (aS xs 0)), .int .i64 (I (aS xs 0)), .int .i64 (E (aS xs 0))]) []))
def tP (P : Bool → SSS) : FSp := mkFS [.s, .b] (fun xs => decide ((aS xs 0).length ≤ 1073741824)) (fun xs k => k (.ret (.str (P (aB xs 1) (aS xs 0))) []))
noncomputable def layFk (Dc : SSS) (pT : SSS) (pI pE : SSI) (jT : SSS) (jI jE : SSI) (Es : SSS) (Pc : Bool → SSS) (In Rp Wh : SSS) : Lay :=
  ((((((((Lay.nil.addF 20 (tS Dc 268435456)).addF 21 (tD pT pI pE)).addF 22 (tD jT jI jE)).addF 23 (tS Es 1073741824)).addF 25 (tP Pc)).addF 26 (tS In 1099511627776)).addF 9 (tS Rp 1073741824)).addF 30 (tS Wh 17592186044416)).addF 6 alive35Told
theorem fb_fun (Dc : SSS) (pT : SSS) (pI pE : SSI) (jT : SSS) (jI jE : SSI) (Es : SSS) (Pc : Bool → SSS) (In Rp Wh : SSS) (e : Int) (s : List UInt8) (k : Out → Ans) : iFun Tryz.prog ((layFk Dc pT pI pE jT jI jE Es Pc In Rp Wh).hd Tryz.prog) (layFk Dc pT pI pE jT jI jE Es Pc In Rp Wh).fhs 9 3 [.int .i64 e, .str s] [] k = (
 let c0 : Bool := decide (s.length ≤ 1073741824);
 let c1 : Bool := decide ((Es s).length ≤ 268435456);
 let c2 : Bool := !Dc (Es s) == Rp s;
 let l3 : List UInt8 := Dc (Es (Pc false s));
 let c4 : Bool := decide (s.length ≤ 1099511627776);
 let c5 : Bool := decide ((In s).length ≤ 1073741824);
 let c6 : Bool := e == 1;
 let c7 : Bool := decide (s.length ≤ 268435456);
 let c8 : Bool := decide (s.length ≤ 17592186044416);
 let c9 : Bool := Wh s == Rp s;
 let c10 : Bool := bif decide (e ≥ 1) then decide (e ≤ 10) else false;
 let c11 : Bool := decide ((Dc s).length ≤ 1073741824);
 let c12 : Bool := e == 2;
  bif c0 then
  bif c1 then
  bif c0 then
  bif c2 then k (Out.ret (AVal.bool false) [])
  else
  bif c0 then
  bif c1 then
  bif c0 then
  bif c2 then k (Out.ret (AVal.bool false) [])
  else
  bif c0 then
  bif c1 then
  bif c0 then
  bif c2 then k (Out.ret (AVal.bool false) [])
  else
  bif c0 then
  bif decide ((Pc false s).length ≤ 1073741824) then
  bif decide ((Es (Pc false s)).length ≤ 268435456) then
  bif decide (l3.length ≤ 1073741824) then
  bif c0 then
  bif bif !pE l3 == 0 then true else !pT l3 == Rp s then
  k (Out.ret (AVal.bool false) [])
  else
  bif c4 then
  bif c5 then
  bif c0 then
  bif bif !jE (In s) == 0 then true else !jT (In s) == Rp s then
  k (Out.ret (AVal.bool false) [])
  else
  bif c4 then
  bif c5 then
  bif decide ((Es (In s)).length ≤ 268435456) then
  bif decide ((Dc (Es (In s))).length ≤ 1073741824) then
  bif c0 then
  bif
  bif !jE (Dc (Es (In s))) == 0 then true
  else !jT (Dc (Es (In s))) == Rp s then
  k (Out.ret (AVal.bool false) [])
  else
  bif c6 then
  bif c6 then
  bif c7 then
  bif c8 then
  bif c0 then
  k
  (Out.ret (AVal.bool (bif c9 then c10 else false))
  [])
  else none
  else none
  else none
  else
  bif e == 6 then
  bif c7 then
  bif c11 then
  bif c8 then
  bif c0 then
  k
  (Out.ret
  (AVal.bool
  (bif c9 then
  bif !pE (Dc s) == 0 then true else c10
  else false))
  [])
  else none
  else none
  else none
  else none
  else
  bif e == 8 then
  bif c0 then
  bif c8 then
  bif c0 then
  k
  (Out.ret
  (AVal.bool
  (bif c9 then
  bif !jE s == 0 then true else c10
  else false))
  [])
  else none
  else none
  else none
  else
  bif e == 10 then
  bif c7 then
  bif c11 then
  bif c8 then
  bif c0 then
  k
  (Out.ret
  (AVal.bool
  (bif c9 then
  bif !jE (Dc s) == 0 then true else c10
  else false))
  [])
  else none
  else none
  else none
  else none
  else
  bif c8 then
  bif c0 then
  k
  (Out.ret
  (AVal.bool (bif c9 then true else false)) [])
  else none
  else none
  else
  bif c12 then
  bif c12 then
  bif c7 then
  bif c8 then
  bif c0 then
  k
  (Out.ret (AVal.bool (bif c9 then c10 else false))
  [])
  else none
  else none
  else none
  else
  bif e == 6 then
  bif c7 then
  bif c11 then
  bif c8 then
  bif c0 then
  k
  (Out.ret
  (AVal.bool
  (bif c9 then
  bif !pE (Dc s) == 0 then true else c10
  else false))
  [])
  else none
  else none
  else none
  else none
  else
  bif e == 8 then
  bif c0 then
  bif c8 then
  bif c0 then
  k
  (Out.ret
  (AVal.bool
  (bif c9 then
  bif !jE s == 0 then true else c10
  else false))
  [])
  else none
  else none
  else none
  else
  bif e == 10 then
  bif c7 then
  bif c11 then
  bif c8 then
  bif c0 then
  k
  (Out.ret
  (AVal.bool
  (bif c9 then
  bif !jE (Dc s) == 0 then true
  else c10
  else false))
  [])
  else none
  else none
  else none
  else none
  else
  bif c8 then
  bif c0 then
  k
  (Out.ret
  (AVal.bool (bif c9 then true else false))
  [])
  else none
  else none
  else
  bif e == 3 then
  bif c7 then
  bif c8 then
  bif c0 then
  k
  (Out.ret (AVal.bool (bif c9 then c10 else false))
  [])
  else none
  else none
  else none
  else
  bif e == 6 then
  bif c7 then
  bif c11 then
  bif c8 then
  bif c0 then
  k
  (Out.ret
  (AVal.bool
  (bif c9 then
  bif !pE (Dc s) == 0 then true else c10
  else false))
  [])
  else none
  else none
  else none
  else none
  else
  bif e == 8 then
  bif c0 then
  bif c8 then
  bif c0 then
  k
  (Out.ret
  (AVal.bool
  (bif c9 then
  bif !jE s == 0 then true else c10
  else false))
  [])
  else none
  else none
  else none
  else
  bif e == 10 then
  bif c7 then
  bif c11 then
  bif c8 then
  bif c0 then
  k
  (Out.ret
  (AVal.bool
  (bif c9 then
  bif !jE (Dc s) == 0 then true
  else c10
  else false))
  [])
  else none
  else none
  else none
  else none
  else
  bif c8 then
  bif c0 then
  k
  (Out.ret
  (AVal.bool (bif c9 then true else false))
  [])
  else none
  else none
  else none
  else none
  else none
  else none
  else none
  else none
  else none
  else none
  else none
  else none
  else none
  else none
  else none
  else none
  else none
  else none
  else none
  else none
  else none
  else none
  else none
  else none) := by kernel_rfl
end Go.Mu
set_option linter.unusedVariables false
set_option linter.unusedSimpArgs false
set_option maxRecDepth 100000
namespace Go.Mu
open Go Go.Proofs
/- Escape, Decode -/
theorem oneQ_ne38 (c : UInt8) (r : List UInt8) (h : c ≠ 38) : oneQ (c :: r) = ([], 0) := by
  have e : ((38 : UInt8) == c) = false := by
    cases hh : (38 : UInt8) == c with
    | false => rfl
    | true => exact absurd (by simpa using hh : (38 : UInt8) = c).symm h
  unfold oneQ
  simp only [List.isPrefixOf, e, Bool.false_and, cond_false, Bool.not_false, cond_true]
theorem oneQ_num (a b : UInt8) (r : List UInt8) (ha : dgt false a = true) (hb : dgt false b = true) (h1 : (a == 120 || a == 88) = false) : oneQ (38 :: 35 :: a :: b :: 59 :: r) = (refC (numN false 0 [a, b]), 5) := by
  have e1 : oneQ (38 :: 35 :: a :: b :: 59 :: r) = onQ (38 :: 35 :: a :: b :: 59 :: r) 2 false := by
    have hx : hxQ (38 :: 35 :: a :: b :: 59 :: r) = false := by
      unfold hxQ
      show (_ && (a == 120 || a == 88)) = false
      rw [h1, Bool.and_false]
    have g : ∀ c : UInt8, (c == 35) = false → List.isPrefixOf (c :: ([] : List UInt8)) [35] = false := fun c h => by simp [List.isPrefixOf, h]
    unfold oneQ
    rw [hx]
    rfl
  have er : runQ false (a :: b :: 59 :: r) = 2 := by
    rw [runQ_cons, ha, cond_true, runQ_cons, hb, cond_true, runQ_cons]
    rfl
  rw [e1]
  unfold onQ
  rw [show List.drop 2 (38 :: 35 :: a :: b :: 59 :: r) = a :: b :: 59 :: r from rfl, er]
  have : decide (2 + 2 < (38 :: 35 :: a :: b :: 59 :: r).length) = true := dT (by simp)
  rw [this]
  rfl
theorem one_esc (c : UInt8) (r : List UInt8) : (escC c = [c] ∧ oneQ (escC c ++ r) = ([], 0)) ∨ (oneQ (escC c ++ r) = ([c], (escC c).length) ∧ 0 < (escC c).length) := by
  by_cases h1 : c = 38
  · subst h1; exact .inr ⟨rfl, by decide⟩
  by_cases h2 : c = 60
  · subst h2; exact .inr ⟨rfl, by decide⟩
  by_cases h3 : c = 62
  · subst h3; exact .inr ⟨rfl, by decide⟩
  by_cases h4 : c = 34
  · subst h4; exact .inr ⟨(oneQ_num 51 52 r rfl rfl rfl).trans rfl, by decide⟩
  by_cases h5 : c = 39
  · subst h5; exact .inr ⟨(oneQ_num 51 57 r rfl rfl rfl).trans rfl, by decide⟩
  by_cases h6 : c = 43
  · subst h6; exact .inr ⟨(oneQ_num 52 51 r rfl rfl rfl).trans rfl, by decide⟩
  have e : escC c = [c] := by
    unfold escC
    rw [beq_false_of_ne h1, beq_false_of_ne h2, beq_false_of_ne h3, beq_false_of_ne h4, beq_false_of_ne h5, beq_false_of_ne h6]
    rfl
  rw [e]
  exact .inl ⟨rfl, oneQ_ne38 c r h1⟩
theorem escT_cons (c : UInt8) (t : List UInt8) : escT (c :: t) = escC c ++ escT t := by unfold escT; rw [List.flatMap_cons]
theorem escC_ne (c : UInt8) : escC c ≠ [] := by
  unfold escC
  cases c == 38 <;> cases c == 60 <;> cases c == 62 <;> cases c == 34 <;> cases c == 39 <;> cases c == 43 <;> simp
theorem decR_esc : ∀ (t : List UInt8) (m : Nat), (escT t).length ≤ m → (escT t).length ≤ 1099511627776 → decR m (escT t) = t
  | [], m, _, _ => by cases m <;> rfl
  | c :: t, m, hm, hl => by
    rw [escT_cons] at hm hl ⊢
    have hne := escC_ne c
    have hp : 0 < (escC c).length := List.length_pos_iff.2 hne
    rw [List.length_append] at hm hl
    obtain ⟨m, rfl⟩ : ∃ j, m = j + 1 := ⟨m - 1, by omega⟩
    have hb : (escC c ++ escT t == []) = false := by
      cases he : escC c with
      | nil => exact absurd he hne
      | cons x y => rfl
    rw [decR, hb, cond_false, oneP_Q _ (by rw [List.length_append]; omega)]
    rcases one_esc c (escT t) with ⟨h1, h2⟩ | ⟨h1, h2⟩
    · rw [h2, dF (by omega), cond_false, h1]
      rw [h1] at hm hl hp
      simp only [List.length_singleton] at hm hl
      exact congrArg (c :: ·) (decR_esc t m (by omega) (by omega))
    · rw [h1, dT h2, cond_true, List.drop_left]
      exact congrArg (c :: ·) (decR_esc t m (by omega) (by omega))
theorem dec_esc (t : List UInt8) (h : (escT t).length ≤ 1099511627776) : decP (escT t) = t := decR_esc t _ (Nat.le_refl _) h
/- Percent -/
def pcC (c : UInt8) : List UInt8 := bif unrM (c.toNat : Int) then [c] else 37 :: hexB (c.toNat : Int) 2
theorem pcG_C (t : List UInt8) (i : Nat) : pcG false t i = pcC (t.getD i 0) := by
  unfold pcG pcC pcMay
  cases unrM ((t.getD i 0).toNat : Int) <;> rfl
theorem pcT_take (t : List UInt8) : ∀ i, i ≤ t.length → pcT false t i = (t.take i).flatMap pcC
  | 0, _ => by rw [List.take_zero]; rfl
  | i + 1, h => by
    have := pcT_take t i (by omega)
    unfold pcT at this ⊢
    rw [range_flat, this, pcG_C, ← take_flat t 0 pcC i (by omega)]
theorem pcT_all (t : List UInt8) : pcT false t t.length = t.flatMap pcC := by rw [pcT_take t _ (Nat.le_refl _), List.take_length]
theorem pcC_no : ∀ c : UInt8, unrM (c.toNat : Int) = false → (unhexM (hexB (c.toNat : Int) 2)).2 = 0 ∧ UInt8.ofNat (IntKind.u8.wrap (unhexM (hexB (c.toNat : Int) 2)).1).toNat = c :=
  oct256 (p := fun c => unrM (c.toNat : Int) = false → (unhexM (hexB (c.toNat : Int) 2)).2 = 0 ∧ UInt8.ofNat (IntKind.u8.wrap (unhexM (hexB (c.toNat : Int) 2)).1).toNat = c) (by decide +kernel)
theorem pcC_yes : ∀ c : UInt8, unrM (c.toNat : Int) = true → c ≠ 37 := oct256 (p := fun c => unrM (c.toNat : Int) = true → c ≠ 37) (by decide +kernel)
theorem pcC_asc : ∀ c : UInt8, (pcC c).all ascB = true := oct256 (p := fun c => (pcC c).all ascB = true) (by decide +kernel)
theorem pdF_pc : ∀ (t : List UInt8) (m : Nat), (t.flatMap pcC).length ≤ m → (pdF m (t.flatMap pcC)).1.flatten = t ∧ (pdF m (t.flatMap pcC)).2.1 = true
  | [], m, _ => by cases m <;> exact ⟨rfl, rfl⟩
  | c :: t, m, hm => by
    rw [List.flatMap_cons] at hm ⊢
    rw [List.length_append] at hm
    cases hu : unrM (c.toNat : Int) with
    | true =>
      have e : pcC c = [c] := by unfold pcC; rw [hu]; rfl
      rw [e] at hm ⊢
      simp only [List.length_singleton] at hm
      obtain ⟨m, rfl⟩ : ∃ j, m = j + 1 := ⟨m - 1, by omega⟩
      obtain ⟨i1, i2⟩ := pdF_pc t m (by omega)
      have ep : pdF (m + 1) ([c] ++ t.flatMap pcC) = ([c] :: (pdF m (t.flatMap pcC)).1, (pdF m (t.flatMap pcC)).2.1, (pdF m (t.flatMap pcC)).2.2 + 1) := by
        show pdF (m + 1) (c :: t.flatMap pcC) = _
        rw [pdF, if_neg (by simp), if_pos (show (c :: t.flatMap pcC).getD 0 0 ≠ 37 from pcC_yes c hu)]
        rfl
      rw [ep]
      exact ⟨by rw [List.flatten_cons, i1]; rfl, i2⟩
    | false =>
      have e : pcC c = [37, hxd ((c.toNat : Int).toNat / 16 % 16), hxd ((c.toNat : Int).toNat % 16)] := by unfold pcC; rw [hu]; rfl
      obtain ⟨g1, g2⟩ := pcC_no c hu
      have eh : hexB (c.toNat : Int) 2 = [hxd ((c.toNat : Int).toNat / 16 % 16), hxd ((c.toNat : Int).toNat % 16)] := rfl
      rw [eh] at g1 g2
      rw [e] at hm ⊢
      generalize hxd ((c.toNat : Int).toNat / 16 % 16) = a at g1 g2 hm ⊢
      generalize hxd ((c.toNat : Int).toNat % 16) = b at g1 g2 hm ⊢
      simp only [List.length_cons, List.length_nil] at hm
      obtain ⟨m, rfl⟩ : ∃ j, m = j + 1 := ⟨m - 1, by omega⟩
      obtain ⟨i1, i2⟩ := pdF_pc t m (by omega)
      have hc : cdS (37 :: a :: b :: t.flatMap pcC) = true := by
        unfold cdS
        rw [show ((37 :: a :: b :: t.flatMap pcC).drop 1).take 2 = [a, b] from rfl, g1, dF (show ¬ (37 :: a :: b :: t.flatMap pcC).length < 3 by simp)]
        rfl
      have ep : pdF (m + 1) ([37, a, b] ++ t.flatMap pcC) = ([c] :: (pdF m (t.flatMap pcC)).1, (pdF m (t.flatMap pcC)).2.1, (pdF m (t.flatMap pcC)).2.2 + 3) := by
        show pdF (m + 1) (37 :: a :: b :: t.flatMap pcC) = _
        rw [pdF, if_neg (by simp), if_neg (by simp), if_neg (by rw [hc]; simp), show ((37 :: a :: b :: t.flatMap pcC).drop 1).take 2 = [a, b] from rfl, g2]
        rfl
      rw [ep]
      exact ⟨by rw [List.flatten_cons, i1]; rfl, i2⟩
theorem pd_pc (s : List UInt8) : pdT (pcP false s) = rpP s ∧ pdEr (pcP false s) = 0 := by
  have e : pcP false s = (rpP s).flatMap pcC := pcT_all _
  obtain ⟨h1, h2⟩ := pdF_pc (rpP s) _ (Nat.le_refl _)
  have ho : pdOk ((rpP s).flatMap pcC) = true := h2
  rw [e]
  unfold pdT pdEr
  rw [ho, h1]
  exact ⟨rfl, rfl⟩
theorem pc_asc (s : List UInt8) : ascL (pcP false s) := by
  have e : pcP false s = (rpP s).flatMap pcC := pcT_all _
  rw [e]
  exact ascL_flat (fun c _ => ascL_of (pcC_asc c))
/- Inside -/
theorem hxd_ok (d : Nat) (h : d < 16) : dgt true (hxd d) = true ∧ dvl (hxd d) = d ∧ ascB (hxd d) = true := by
  have key : ∀ m : Fin 16, dgt true (hxd m.val) = true ∧ dvl (hxd m.val) = m.val ∧ ascB (hxd m.val) = true := by decide +kernel
  exact key ⟨d, h⟩
theorem unh4 (n : Int) (h0 : 0 ≤ n) (h1 : n ≤ 65535) : ∃ a b c d, hexB n 4 = [a, b, c, d] ∧ unhexM [a, b, c, d] = (n, 0) ∧ [a, b, c, d].all ascB = true := by
  obtain ⟨m, rfl⟩ : ∃ m : Nat, n = m := ⟨n.toNat, by omega⟩
  obtain ⟨a1, a2, a3⟩ := hxd_ok (m / 4096 % 16) (by omega)
  obtain ⟨b1, b2, b3⟩ := hxd_ok (m / 256 % 16) (by omega)
  obtain ⟨c1, c2, c3⟩ := hxd_ok (m / 16 % 16) (by omega)
  obtain ⟨d1, d2, d3⟩ := hxd_ok (m % 16) (by omega)
  refine ⟨hxd (m / 4096 % 16), hxd (m / 256 % 16), hxd (m / 16 % 16), hxd (m % 16), rfl, ?_, ?_⟩
  · have hall : [hxd (m / 4096 % 16), hxd (m / 256 % 16), hxd (m / 16 % 16), hxd (m % 16)].all (dgt true) = true := by
      simp only [List.all_cons, List.all_nil, a1, b1, c1, d1, Bool.and_self]
    rw [(unh_yes hall (by simp) (by simp)).1]
    have : hexN [hxd (m / 4096 % 16), hxd (m / 256 % 16), hxd (m / 16 % 16), hxd (m % 16)] = m := by
      unfold hexN
      rw [numN_cons, numN_cons, numN_cons, numN_cons, a2, b2, c2, d2]
      show ((((0 * 16 + m / 4096 % 16) * 16 + m / 256 % 16) * 16 + m / 16 % 16) * 16 + m % 16) = m
      omega
    rw [this]
  · simp only [List.all_cons, List.all_nil, a3, b3, c3, d3, Bool.and_self]
theorem jo_one (n : Int) (a b c d : UInt8) (r : List UInt8) (hu : unhexM [a, b, c, d] = (n, 0)) (hn : ¬ (55296 ≤ n ∧ n ≤ 57343)) : joS (92 :: 117 :: a :: b :: c :: d :: r) = (encX n, 6, true) := by
  unfold joS
  rw [if_neg (by simp), if_pos (by rfl)]
  unfold joU
  rw [if_neg (by simp), show ((92 :: 117 :: a :: b :: c :: d :: r).drop 2).take 4 = [a, b, c, d] from rfl, hu, if_neg (by simp), if_neg (fun h => hn ⟨h.1.1, by have := h.1.2; simp only at this; omega⟩), if_neg hn]
theorem jo_two (n p : Int) (a b c d a' b' c' d' : UInt8) (r : List UInt8) (hu : unhexM [a, b, c, d] = (n, 0)) (hp : unhexM [a', b', c', d'] = (p, 0)) (hn : 55296 ≤ n ∧ n < 56320) (hq : 56320 ≤ p ∧ p ≤ 57343) :
    joS (92 :: 117 :: a :: b :: c :: d :: 92 :: 117 :: a' :: b' :: c' :: d' :: r) = (encX (65536 + (n - 55296) * 1024 + p - 56320), 12, true) := by
  have hj : joLow (92 :: 117 :: a :: b :: c :: d :: 92 :: 117 :: a' :: b' :: c' :: d' :: r) = true := by
    unfold joLow
    rw [show ((92 :: 117 :: a :: b :: c :: d :: 92 :: 117 :: a' :: b' :: c' :: d' :: r).drop 8).take 4 = [a', b', c', d'] from rfl, hp, dT (show 12 ≤ (92 :: 117 :: a :: b :: c :: d :: 92 :: 117 :: a' :: b' :: c' :: d' :: r).length by simp)]
    simp only
    rw [dT (show p ≥ 56320 from hq.1), dT hq.2]
    rfl
  unfold joS
  rw [if_neg (by simp), if_pos (by rfl)]
  unfold joU
  rw [if_neg (by simp), show ((92 :: 117 :: a :: b :: c :: d :: 92 :: 117 :: a' :: b' :: c' :: d' :: r).drop 2).take 4 = [a, b, c, d] from rfl, hu, if_neg (by simp), if_pos ⟨hn, hj⟩,
    show ((92 :: 117 :: a :: b :: c :: d :: 92 :: 117 :: a' :: b' :: c' :: d' :: r).drop 8).take 4 = [a', b', c', d'] from rfl, hp]
theorem bare_ok (c : Int) (h : bareM c = true) : ∃ b : UInt8, byteOf [.int .u8 (IntKind.u8.wrap c)] = b ∧ b ≠ 92 ∧ endC b = false ∧ encX c = [b] ∧ ascB b = true := by
  have h01 : 0 ≤ c ∧ c < 128 := by
    unfold bareM at h
    by_cases h1 : c < 128
    · by_cases h2 : c ≥ 0
      · exact ⟨h2, h1⟩
      · rw [dT h1, dF h2] at h; cases h
    · rw [dF h1] at h; cases h
  have key : ∀ m : Fin 128, bareM (m.val : Int) = true → byteOf [.int .u8 (IntKind.u8.wrap (m.val : Int))] ≠ 92 ∧ endC (byteOf [.int .u8 (IntKind.u8.wrap (m.val : Int))]) = false ∧ encX (m.val : Int) = [byteOf [.int .u8 (IntKind.u8.wrap (m.val : Int))]] ∧ ascB (byteOf [.int .u8 (IntKind.u8.wrap (m.val : Int))]) = true := by decide +kernel
  obtain ⟨m, rfl⟩ : ∃ m : Nat, c = m := ⟨c.toNat, by omega⟩
  exact ⟨_, rfl, key ⟨m, by omega⟩ h⟩
theorem in_asc (c : Int) (h : 0 < c ∧ c ≤ 1114111) : (inB c).all ascB = true := by
  unfold inB
  split
  · rename_i hb
    obtain ⟨b, e, _, _, _, h4⟩ := bare_ok c hb
    rw [e, List.all_cons, h4]; rfl
  split
  · obtain ⟨a, b, c', d, e1, _, e3⟩ := unh4 (55296 + (c - 65536) / 1024) (by omega) (by omega)
    obtain ⟨a2, b2, c2, d2, f1, _, f3⟩ := unh4 (56320 + (c - 65536) % 1024) (by omega) (by omega)
    rw [e1, f1, List.all_append, List.all_append, List.all_append, e3, f3]
    rfl
  · obtain ⟨a, b, c', d, e1, _, e3⟩ := unh4 c (by omega) (by omega)
    rw [e1, List.all_append, e3]
    rfl
theorem jdF_in : ∀ (l : List Int) (m : Nat), okCh l → (l.flatMap inB).length ≤ m → (jdF m (l.flatMap inB)).1.flatten = l.flatMap encX ∧ (jdF m (l.flatMap inB)).2.1 = true
  | [], m, _, _ => by cases m <;> exact ⟨rfl, rfl⟩
  | c :: l, m, hk, hm => by
    have hc := hk c (by simp)
    have hk' : okCh l := fun x hx => hk x (by simp [hx])
    rw [List.flatMap_cons] at hm ⊢
    rw [List.flatMap_cons, List.length_append] at *
    by_cases hb : bareM c = true
    · obtain ⟨b, e, h1, h2, h3, h4⟩ := bare_ok c hb
      have ei : inB c = [b] := by unfold inB; rw [if_pos hb, e]
      rw [ei] at hm ⊢
      simp only [List.length_singleton] at hm
      obtain ⟨m, rfl⟩ : ∃ j, m = j + 1 := ⟨m - 1, by omega⟩
      obtain ⟨i1, i2⟩ := jdF_in l m hk' (by omega)
      have ep : jdF (m + 1) ([b] ++ l.flatMap inB) = ([b] :: (jdF m (l.flatMap inB)).1, (jdF m (l.flatMap inB)).2.1, (jdF m (l.flatMap inB)).2.2 + 1) := by
        show jdF (m + 1) (b :: l.flatMap inB) = _
        rw [jdF, if_neg (by simp), if_neg (show ¬ (b :: l.flatMap inB).getD 0 0 = 92 from h1), if_neg (by show ¬ endC b = true; rw [h2]; simp)]
        rfl
      rw [ep, h3]
      exact ⟨by rw [List.flatten_cons, i1], i2⟩
    · by_cases h6 : c ≥ 65536
      · obtain ⟨a, b, c', d, e1, e2, _⟩ := unh4 (55296 + (c - 65536) / 1024) (by omega) (by omega)
        obtain ⟨a2, b2, c2, d2, f1, f2, _⟩ := unh4 (56320 + (c - 65536) % 1024) (by omega) (by omega)
        have ei : inB c = [92, 117, a, b, c', d, 92, 117, a2, b2, c2, d2] := by unfold inB; rw [if_neg hb, if_pos h6, e1, f1]; rfl
        rw [ei] at hm ⊢
        simp only [List.length_cons, List.length_nil] at hm
        obtain ⟨m, rfl⟩ : ∃ j, m = j + 1 := ⟨m - 1, by omega⟩
        obtain ⟨i1, i2⟩ := jdF_in l m hk' (by omega)
        have hj := jo_two _ _ a b c' d a2 b2 c2 d2 (l.flatMap inB) e2 f2 (by omega) (by omega)
        have ev : 65536 + (55296 + (c - 65536) / 1024 - 55296) * 1024 + (56320 + (c - 65536) % 1024) - 56320 = c := by omega
        rw [ev] at hj
        have ep : jdF (m + 1) ([92, 117, a, b, c', d, 92, 117, a2, b2, c2, d2] ++ l.flatMap inB) = (encX c :: (jdF m (l.flatMap inB)).1, (jdF m (l.flatMap inB)).2.1, (jdF m (l.flatMap inB)).2.2 + 12) := by
          show jdF (m + 1) (92 :: 117 :: a :: b :: c' :: d :: 92 :: 117 :: a2 :: b2 :: c2 :: d2 :: l.flatMap inB) = _
          rw [jdF, if_neg (by simp), if_pos (by rfl), hj]
          rfl
        rw [ep]
        exact ⟨by rw [List.flatten_cons, i1], i2⟩
      · obtain ⟨a, b, c', d, e1, e2, _⟩ := unh4 c (by omega) (by omega)
        have ei : inB c = [92, 117, a, b, c', d] := by unfold inB; rw [if_neg hb, if_neg h6, e1]; rfl
        rw [ei] at hm ⊢
        simp only [List.length_cons, List.length_nil] at hm
        obtain ⟨m, rfl⟩ : ∃ j, m = j + 1 := ⟨m - 1, by omega⟩
        obtain ⟨i1, i2⟩ := jdF_in l m hk' (by omega)
        have hj := jo_one c a b c' d (l.flatMap inB) e2 hc.2.2
        have ep : jdF (m + 1) ([92, 117, a, b, c', d] ++ l.flatMap inB) = (encX c :: (jdF m (l.flatMap inB)).1, (jdF m (l.flatMap inB)).2.1, (jdF m (l.flatMap inB)).2.2 + 6) := by
          show jdF (m + 1) (92 :: 117 :: a :: b :: c' :: d :: l.flatMap inB) = _
          rw [jdF, if_neg (by simp), if_pos (by rfl), hj]
          rfl
        rw [ep]
        exact ⟨by rw [List.flatten_cons, i1], i2⟩
theorem jd_in (s : List UInt8) : jdT (inP s) = rpP s ∧ jdEr (inP s) = 0 := by
  obtain ⟨h1, h2⟩ := jdF_in (chP s) _ (chP_ok s) (Nat.le_refl _)
  have ho : jdOk (inP s) = true := h2
  unfold jdT jdEr
  rw [ho]
  exact ⟨h1, rfl⟩
theorem inP_asc (s : List UInt8) : ascL (inP s) := ascL_flat (fun c hc => ascL_of (in_asc c ⟨(chP_ok s c hc).1, (chP_ok s c hc).2.1⟩))
/- the law -/
theorem escP_len (s : List UInt8) : (escP s).length ≤ 5 * (rpP s).length := flat_len escC 5 escC_len (rpP s)
theorem tS_ok {R : SSS} {n : Nat} {f : FuncId} (h : ∀ s : List UInt8, s.length ≤ n → CallOK Tryz.prog f [.str s] [] (.ret (.str (R s)) [])) : ∀ xs H k out, tS R n xs H k = some out → ∃ o, CallOK Tryz.prog f xs H o ∧ k o = some out := mkFS_ok fun ys xs e hh => by
  obtain ⟨s, rfl⟩ : ∃ s, xs = [.str s] := ⟨_, e⟩
  exact ⟨_, fun k => rfl, h s (of_decide_eq_true hh)⟩
theorem tD_ok {T : SSS} {I E : SSI} {f : FuncId} (h : ∀ s : List UInt8, s.length ≤ 1073741824 → CallOK Tryz.prog f [.str s] [] (.ret (.tuple [.str (T s), .int .i64 (I s), .int .i64 (E s)]) [])) : ∀ xs H k out, tD T I E xs H k = some out → ∃ o, CallOK Tryz.prog f xs H o ∧ k o = some out := mkFS_ok fun ys xs e hh => by
  obtain ⟨s, rfl⟩ : ∃ s, xs = [.str s] := ⟨_, e⟩
  exact ⟨_, fun k => rfl, h s (of_decide_eq_true hh)⟩
theorem tP_ok : ∀ xs H k out, tP pcP xs H k = some out → ∃ o, CallOK Tryz.prog 25 xs H o ∧ k o = some out := mkFS_ok fun ys xs e hh => by
  obtain ⟨s, b, rfl⟩ : ∃ s b, xs = [.str s, .bool b] := ⟨_, _, e⟩
  exact ⟨_, fun k => rfl, pc_ok b s (of_decide_eq_true hh)⟩
theorem layFk_ok : (layFk decP pdT pdI pdEr jdT jdI jdEr escP pcP inP rpP repB).OK Tryz.prog :=
  ((((((((Lay.nil_ok.addF (tS_ok decP_ok)).addF (tD_ok pd_ok)).addF (tD_ok jd_ok)).addF (tS_ok re_ok)).addF tP_ok).addF (tS_ok in_ok)).addF (tS_ok (fun s h => rr_ok s (by omega)))).addF (tS_ok rep_ok)).addF alive35Told_ok
theorem escP_asc {x : List UInt8} (h : ascL x) : escP x = escT x := by unfold escP; rw [rp_asc h]
theorem fb_ok (e : Int) (s : List UInt8) (hs : s.length ≤ 1048576) : CallOK Tryz.prog 3 [.int .i64 e, .str s] [] (.ret (.bool true) []) := by
  have l1 := rpP_len s
  have l2 := escP_len s
  have l3 := pcP_len false s
  have l4 := inP_len s
  have l5 := flat_len escC 5 escC_len (pcP false s)
  have l6 := flat_len escC 5 escC_len (inP s)
  have e2 : escP (pcP false s) = escT (pcP false s) := escP_asc (pc_asc s)
  have e3 : escP (inP s) = escT (inP s) := escP_asc (inP_asc s)
  have l5 : (escT (pcP false s)).length ≤ 5 * (pcP false s).length := l5
  have l6 : (escT (inP s)).length ≤ 5 * (inP s).length := l6
  have h1 : decP (escP s) = rpP s := dec_esc _ (by show (escP s).length ≤ _; omega)
  have h2 : decP (escP (pcP false s)) = pcP false s := by rw [e2]; exact dec_esc _ (by omega)
  have h3 : decP (escP (inP s)) = inP s := by rw [e3]; exact dec_esc _ (by omega)
  obtain ⟨p1, p2⟩ := pd_pc s
  obtain ⟨j1, j2⟩ := jd_in s
  have ld : (decP s).length ≤ 4 * s.length := decR_len _ s (by omega)
  have key := fun k => fb_fun decP pdT pdI pdEr jdT jdI jdEr escP pcP inP rpP repB e s k
  rw [← e2] at l5
  rw [← e3] at l6
  simp only [h1, h2, h3, p1, p2, j1, j2, repB_rp, beq_self_eq_true, Bool.not_true, cond_false, cond_true,
    dT (show s.length ≤ 1073741824 by omega), dT (show (escP s).length ≤ 268435456 by omega), dT (show s.length ≤ 1099511627776 by omega), dT (show (inP s).length ≤ 1073741824 by omega),
    dT (show s.length ≤ 268435456 by omega), dT (show s.length ≤ 17592186044416 by omega), dT (show (decP s).length ≤ 1073741824 by omega), dT (show (pcP false s).length ≤ 1073741824 by omega), dT (show (escP (pcP false s)).length ≤ 268435456 by omega), dT (show (escP (inP s)).length ≤ 268435456 by omega)] at key
  refine layFk_ok.callN (G := []) 9 rfl (fun k => (key k).trans ?_)
  by_cases a1 : e = 1
  · subst a1; rfl
  by_cases a2 : e = 2
  · subst a2; rfl
  by_cases a3 : e = 3
  · subst a3; rfl
  by_cases a6 : e = 6
  · subst a6; simp
  by_cases a8 : e = 8
  · subst a8; simp
  by_cases a10 : e = 10
  · subst a10; simp
  simp only [beq_false_of_ne a1, beq_false_of_ne a2, beq_false_of_ne a3, beq_false_of_ne a6, beq_false_of_ne a8, beq_false_of_ne a10, cond_false]
end Go.Mu
set_option linter.unusedVariables false
namespace Go.Mu
open Go
variable {H : Type}
mutual
theorem size_bulk : ∀ d : DataW H, (tOf d).size ≤ Go.Proofs.YtfepcpcnfibbnaaGreatDoor.Rows.uptoBulk d
  | .lit (.bool _) => by simp [tOf, T.size, Go.Proofs.YtfepcpcnfibbnaaGreatDoor.Rows.uptoBulk]
  | .lit (.int _ _) => by simp [tOf, T.size, Go.Proofs.YtfepcpcnfibbnaaGreatDoor.Rows.uptoBulk]
  | .lit (.string _) => by simp [tOf, T.size, Go.Proofs.YtfepcpcnfibbnaaGreatDoor.Rows.uptoBulk]
  | .lit (.float _ _) => by simp [tOf, T.size, T.sizes, Go.Proofs.YtfepcpcnfibbnaaGreatDoor.Rows.uptoBulk]
  | .lit .nil => by simp [tOf, T.size, T.sizes, Go.Proofs.YtfepcpcnfibbnaaGreatDoor.Rows.uptoBulk]
  | .nil => by simp [tOf, T.size, T.sizes, Go.Proofs.YtfepcpcnfibbnaaGreatDoor.Rows.uptoBulk]
  | .ptr d => by simp [tOf, T.size, T.sizes, Go.Proofs.YtfepcpcnfibbnaaGreatDoor.Rows.uptoBulk]
  | .slice es sp => by
    have := size_bulks es
    simp only [tOf, T.size, Go.Proofs.YtfepcpcnfibbnaaGreatDoor.Rows.uptoBulk]
    omega
  | .agg ps => by
    have := size_bulks ps
    simp only [tOf, T.size, Go.Proofs.YtfepcpcnfibbnaaGreatDoor.Rows.uptoBulk]
    omega
  | .iface _ d => by simp [tOf, T.size, T.sizes, Go.Proofs.YtfepcpcnfibbnaaGreatDoor.Rows.uptoBulk]
  | .map _ => by simp [tOf, T.size, T.sizes, Go.Proofs.YtfepcpcnfibbnaaGreatDoor.Rows.uptoBulk]
  | .held _ => by simp [tOf, T.size, T.sizes, Go.Proofs.YtfepcpcnfibbnaaGreatDoor.Rows.uptoBulk]
theorem size_bulks : ∀ ds : List (DataW H), T.sizes (tOfs ds) ≤ Go.Proofs.YtfepcpcnfibbnaaGreatDoor.Rows.uptoBulkAll ds
  | [] => by simp [tOfs, T.sizes, Go.Proofs.YtfepcpcnfibbnaaGreatDoor.Rows.uptoBulkAll]
  | d :: ds => by
    have := size_bulk d
    have := size_bulks ds
    simp only [tOfs, T.sizes, Go.Proofs.YtfepcpcnfibbnaaGreatDoor.Rows.uptoBulkAll]
    omega
end
theorem small_size {ds : List (DataW H)} (h : Go.Proofs.YtfepcpcnfibbnaaGreatDoor.Rows.uptoSmall H ds = true) : T.sizes (tOfs ds) ≤ 1048576 := by
  unfold Go.Proofs.YtfepcpcnfibbnaaGreatDoor.Rows.uptoSmall at h
  have := size_bulks ds
  have := of_decide_eq_true h
  omega
end Go.Mu
set_option linter.unusedVariables false
set_option linter.unusedSimpArgs false
set_option maxRecDepth 100000
namespace Go.Proofs
open Go.Shelf
theorem Tryz.uRen_260 : Lays.n260 Tryz.prog Tryz.uRen := { Tryz.uRen_197 with }
theorem Tryz.u8Extra : U8Extra Tryz.prog Tryz.uRen where
  n3 := by kernel_rfl
  n4 := by kernel_rfl
  y3 := by kernel_rfl
  y4 := by kernel_rfl
  c5 := by kernel_rfl
  c119 := by kernel_rfl
  c138 := by kernel_rfl
end Go.Proofs
namespace Go.Mu
open Go Go.Proofs
theorem tabs_glob {W : World} {laid : List (String × DataW Unit)} (hl : laidMet Tryz.prog laid W) (h1 : ("unicode/utf8.first", Lib.firstData) ∈ laid) (h2 : ("unicode/utf8.acceptRanges", Lib.acceptData) ∈ laid) : ∀ g cells, gvals g = some cells → RepP W (oldB W) (.rptr cells) (.pointer (some ⟨g, 0, none⟩)) := by
  have hT : Lib.Utf8Tabs 1 2 W := utf8Tabs_of_reads Tryz.uRen_260 Tryz.u8Extra (Lib.laidMet.reads hl h1) (Lib.laidMet.reads hl h2)
  obtain ⟨t1, t2⟩ := hT
  have lt : ∀ {g j v}, W.cell? ⟨g, j, none⟩ = some v → oldB W g := fun {g j v} h => by
    show g < W.heap.size
    unfold World.cell? at h
    by_cases hlt : g < W.heap.size
    · exact hlt
    · have hle : W.heap.size ≤ (Addr.mk g j none).block := by show W.heap.size ≤ g; omega
      rw [Array.getElem?_eq_none hle] at h
      simp at h
  intro g cells hg
  unfold gvals at hg
  split at hg
  · rename_i e
    have e : g = 1 := by simpa using e
    subst e
    simp only [Option.some.injEq] at hg
    subst hg
    refine .rptr _ _ 0 (fun j => .int .u8 (Lib.firstT j)) (lt (t1 0 (by omega))) (fun j hj => ?_) (fun j hj => ?_)
    · simp only [List.length_map, List.length_range] at hj
      rw [Nat.zero_add]
      exact ⟨t1 j hj, rfl⟩
    · simp only [List.length_map, List.length_range] at hj
      rw [List.getD_eq_getElem?_getD, List.getElem?_map, List.getElem?_range hj]
      exact .int _ _
  · split at hg
    · rename_i e
      have e : g = 2 := by simpa using e
      subst e
      simp only [Option.some.injEq] at hg
      subst hg
      refine .rptr _ _ 0 (fun j => .int .u8 ((if j % 2 = 0 then Lib.accLo (j / 2) else Lib.accHi (j / 2) : Nat) : Int)) (lt (t2 0 (by omega)).1) (fun j hj => ?_) (fun j hj => ?_)
      · simp only [List.length_map, List.length_range] at hj
        rw [Nat.zero_add]
        refine ⟨?_, rfl⟩
        have h3 := t2 (j / 2) (by omega)
        by_cases hp : j % 2 = 0
        · rw [if_pos hp]
          have : 2 * (j / 2) = j := by omega
          rw [this] at h3
          exact h3.1
        · rw [if_neg hp]
          have : 2 * (j / 2) + 1 = j := by omega
          rw [this] at h3
          exact h3.2
      · simp only [List.length_map, List.length_range] at hj
        rw [List.getD_eq_getElem?_getD, List.getElem?_map, List.getElem?_range hj]
        simp only [Option.map_some, Option.getD_some]
        split <;> exact .int _ _
    · cases hg
end Go.Mu
