/-
  Lemmas on the given program (part 6).
-/
import Derived.Test.YthbdcgfaklnelaaGreatDoorFC5
set_option linter.unusedVariables false
set_option linter.unusedSimpArgs false
set_option maxRecDepth 100000
namespace Go.Mu
open Go Go.Proofs
theorem rhex2_fun (n : Int) (k : Out → Ans) : iFun Tryz.prog (Lay.nil.hd Tryz.prog) Lay.nil.fhs 9 58 [.int .i64 n, .int .i64 2] [] k = (
 let c0 : Bool := !(IntKind.u64.wrap n == IntKind.u64.wrap n && false);
 let n1 : Int := IntKind.i64.wrap ((IntKind.u64.wrap n).tmod 16);
 let n2 : Int := IntKind.i64.wrap (n1 + 1);
 let z0 := [48, 49, 50, 51, 52, 53, 54, 55, 56, 57, 97, 98, 99, 100, 101, 102];
 let l3 : Oc := List.drop n1.toNat (List.take n2.toNat z0);
 let n4 : Int := IntKind.u64.wrap ((IntKind.u64.wrap n).tdiv 16);
 let c5 : Bool := !(n4 == n4 && false);
 let n6 : Int := IntKind.i64.wrap (n4.tmod 16);
 let n7 : Int := IntKind.i64.wrap (n6 + 1);
 let l8 : Oc := List.drop n6.toNat (List.take n7.toNat z0);
 let l9 : Oc := l3.append [];
  bif c0 then bif decide (0 ≤ n1) && decide (n1 ≤ n2) && decide (n2 ≤ 16) then bif decide (l3.length + 0 ≤ 4611686018427387904) then bif c0 then bif c5 then bif decide (0 ≤ n6) && decide (n6 ≤ n7) && decide (n7 ≤ 16) then bif decide (l8.length + l9.length ≤ 4611686018427387904) then bif c5 then k (Out.ret (AVal.str (l8.append l9)) []) else none else none else none else none else none else none else none else none) := by kernel_rfl
theorem rhex4_fun (n : Int) (k : Out → Ans) : iFun Tryz.prog (Lay.nil.hd Tryz.prog) Lay.nil.fhs 9 58 [.int .i64 n, .int .i64 4] [] k = (
 let c0 : Bool := !(IntKind.u64.wrap n == IntKind.u64.wrap n && false);
 let n1 : Int := IntKind.i64.wrap ((IntKind.u64.wrap n).tmod 16);
 let n2 : Int := IntKind.i64.wrap (n1 + 1);
 let z0 := [48, 49, 50, 51, 52, 53, 54, 55, 56, 57, 97, 98, 99, 100, 101, 102];
 let l3 : Oc := List.drop n1.toNat (List.take n2.toNat z0);
 let n4 : Int := IntKind.u64.wrap ((IntKind.u64.wrap n).tdiv 16);
 let c5 : Bool := !(n4 == n4 && false);
 let n6 : Int := IntKind.i64.wrap (n4.tmod 16);
 let n7 : Int := IntKind.i64.wrap (n6 + 1);
 let l8 : Oc := List.drop n6.toNat (List.take n7.toNat z0);
 let l9 : Oc := l3.append [];
 let n10 : Int := IntKind.u64.wrap (n4.tdiv 16);
 let c11 : Bool := !(n10 == n10 && false);
 let n12 : Int := IntKind.i64.wrap (n10.tmod 16);
 let n13 : Int := IntKind.i64.wrap (n12 + 1);
 let l14 : Oc := List.drop n12.toNat (List.take n13.toNat z0);
 let l15 : Oc := l8.append l9;
 let n16 : Int := IntKind.u64.wrap (n10.tdiv 16);
 let c17 : Bool := !(n16 == n16 && false);
 let n18 : Int := IntKind.i64.wrap (n16.tmod 16);
 let n19 : Int := IntKind.i64.wrap (n18 + 1);
 let l20 : Oc := List.drop n18.toNat (List.take n19.toNat z0);
 let l21 : Oc := l14.append l15;
  bif c0 then bif decide (0 ≤ n1) && decide (n1 ≤ n2) && decide (n2 ≤ 16) then bif decide (l3.length + 0 ≤ 4611686018427387904) then bif c0 then bif c5 then bif decide (0 ≤ n6) && decide (n6 ≤ n7) && decide (n7 ≤ 16) then bif decide (l8.length + l9.length ≤ 4611686018427387904) then bif c5 then bif c11 then bif decide (0 ≤ n12) && decide (n12 ≤ n13) && decide (n13 ≤ 16) then bif decide (l14.length + l15.length ≤ 4611686018427387904) then bif c11 then bif c17 then bif decide (0 ≤ n18) && decide (n18 ≤ n19) && decide (n19 ≤ 16) then bif decide (l20.length + l21.length ≤ 4611686018427387904) then bif c17 then k (Out.ret (AVal.str (l20.append l21)) []) else none else none else none else none else none else none else none else none else none else none else none else none else none else none else none else none) := by kernel_rfl
noncomputable def layUr : Lay := ((Lay.nil.addF 45 (octTold rLtr)).addF 46 (octTold rDgt)).addF 43 (hasTold anyI)
theorem unr_fun (n : Int) (k : Out → Ans) : iFun Tryz.prog (layUr.hd Tryz.prog) layUr.fhs 0 55 [.int .u8 n] [] k = (
 k
 (Out.ret
 (AVal.bool
 (bif
 bif bif bif bif rLtr n then true else rDgt n then true else n == 45 then true else n == 46 then true
 else n == 95 then
 true
 else n == 126))
  [])) := by kernel_rfl
theorem res_fun (n : Int) (k : Out → Ans) : iFun Tryz.prog (layUr.hd Tryz.prog) layUr.fhs 0 56 [.int .u8 n] [] k = (
 k (Out.ret (AVal.bool (anyI [33, 35, 36, 38, 42, 43, 44, 47, 58, 59, 61, 63, 64, 91, 93] n)) [])) := by kernel_rfl
theorem bare_fun (n : Int) (k : Out → Ans) : iFun Tryz.prog (layUr.hd Tryz.prog) layUr.fhs 0 59 [.int .i64 n] [] k = (
 k
 (Out.ret
 (AVal.bool
 (bif bif decide (n < 128) then decide (n ≥ 0) else false then
 bif
 bif
 bif bif bif rLtr (IntKind.u8.wrap n) then true else rDgt (IntKind.u8.wrap n) then true else n == 32 then
 true
 else n == 95 then
 true
 else n == 46 then
 true
 else n == 44
 else false))
  [])) := by kernel_rfl
noncomputable def layCo : Lay := Lay.nil.addF 80 (runTold' runQ)
theorem rcoded_fun (s : Oc) (i : Int) (k : Out → Ans) : iFun Tryz.prog (layCo.hd Tryz.prog) layCo.fhs 0 57 [.str s, .int .i64 i] [] k = (
 let n0 : Int := (↑s.length : Int);
 let n1 : Int := IntKind.i64.wrap (i + 1);
  bif decide (0 ≤ i) && decide (i < n0) then
  bif decide (s.length ≤ 1099511627776 ∧ 0 ≤ n1 ∧ n1 ≤ n0) then
  k
  (Out.ret
  (AVal.bool
  (bif bif (↑(s.getD i.toNat 0).toNat : Int) == 37 then decide (IntKind.i64.wrap (i + 2) < n0) else false then
  decide ((↑(runQ true (List.drop n1.toNat s)) : Int) ≥ 2)
  else false))
  [])
  else none
  else none) := by kernel_rfl
def hxTold (X : Int → Int → Oc) : FSp := mkFS [.i .i64, .i .i64] (fun xs => decide (0 ≤ aI xs 0 ∧ (aI xs 1 = 2 ∧ aI xs 0 ≤ 255 ∨ aI xs 1 = 4 ∧ aI xs 0 ≤ 65535))) (fun xs k => k (.ret (.str (X (aI xs 0) (aI xs 1))) []))
def obTold (B : Int → Bool) : FSp := mkFS [.i .u8] (fun xs => decide (0 ≤ aI xs 0 ∧ aI xs 0 ≤ 255)) (fun xs k => k (.ret (.bool (B (aI xs 0))) []))
noncomputable def layPc0 (X : Int → Int → Oc) (U V : Int → Bool) (C : Oc → Bool) (R : Oc → Oc) : Lay := ((((Lay.nil.addF 58 (hxTold X)).addF 55 (obTold U)).addF 56 (obTold V)).addF 57 (cdTold C)).addF 9 (ursTold R)
abbrev PcR := Bool → Oc → Oc × Nat
noncomputable def pcSp (P : PcR) : LSp := mkL (fun vs _ H => (aB vs 0, aS vs 1, (aI vs 3).toNat)) (fun x => x.2.2 = 0 ∧ x.2.1.length ≤ 1099511627776) (fun x => [.bool x.1, .str x.2.1, nilList, .int .i64 (x.2.2 : Nat)]) (fun _ => []) (fun _ => [])
 (fun x k => cond (x.2.1 == []) (k (.exit 0) [nilList] [] []) (k (.exit 0) [.own 0 0 (P x.1 x.2.1).1.length (P x.1 x.2.1).2 false] [] [.arr 1 ((P x.1 x.2.1).1.map byteRow) (P x.1 x.2.1).2]))
noncomputable def pcFH (P : PcR) : FH := .of [(4, loopSpec 52 [1,5,6,7] [] [6] [] (pcSp P))]
theorem pc_s0 (X : Int → Int → Oc) (U V : Int → Bool) (C : Oc → Bool) (R : Oc → Oc) (P : PcR) (b : Bool) (s : Oc) (i : Int) (D : Dfs) (k : Kont) : lturn Tryz.prog (layPc0 X U V C R) (pcFH P) 25 4 [1,5,6,7] [] [6] [] (stL 52 [1,5,6,7] [.bool b, .str s, nilList, .int .i64 i] [] [] [] D) k = (
 let c0 : Bool := decide (i < (↑s.length : Int));
 let c1 : Bool := decide (0 ≤ i) && c0;
 let n2 : Int := (↑(s.getD i.toNat 0).toNat : Int);
 let c3 : Bool := decide (0 ≤ n2 ∧ n2 ≤ 255);
 let c4 : Bool := U n2;
 let n5 : Int := IntKind.i64.wrap n2;
 let m6 : Nat := 0 + 1 + (List.map (fun (c : UInt8) => [AVal.int .u8 (↑c.toNat : Int)]) (X n5 2)).length;
  bif c0 then bif c1 then bif c3 then bif c1 || !(!c4 && b) then bif c3 then bif decide (0 ≤ i ∧ i < (↑s.length : Int) ∧ s.length ≤ 1099511627776) then bif bif c4 then true else bif b then bif V n2 then true else C (List.drop i.toNat s) else false then bif c1 then k AExit.normal (stL 52 [1, 5, 6, 7] [AVal.bool b, AVal.str s, AVal.own 0 0 (0 + 1) 0 false, AVal.int .i64 (IntKind.i64.wrap (i + 1))] [] [] [Obj.arr 1 [[AVal.int .u8 n2]] 0] D) else none else bif c1 then bif decide (0 ≤ n5 ∧ ((2 : Int) = 2 ∧ n5 ≤ 255 ∨ (2 : Int) = 4 ∧ n5 ≤ 65535)) then bif decide ((2 * m6 + 1000) * 1 ≤ 281474976710656) && true then k AExit.normal (stL 52 [1, 5, 6, 7] [AVal.bool b, AVal.str s, AVal.own 0 0 m6 1 false, AVal.int .i64 (IntKind.i64.wrap (i + 1))] [] [] [Obj.arr 1 ([AVal.int .u8 37] :: List.map (fun (c : UInt8) => [AVal.int .u8 (↑c.toNat : Int)]) (X n5 2)) 1] D) else none else none else none else none else none else none else none else none else k (AExit.exit 0) (stL 52 [6] [AVal.list true 0 fun (x : Nat) => []] [] [] [] D)) := by kernel_rfl
theorem pc_s1 (X : Int → Int → Oc) (U V : Int → Bool) (C : Oc → Bool) (R : Oc → Oc) (P : PcR) (b : Bool) (s : Oc) (i : Int) (q v : Nat) (rows : List (List AVal)) (D : Dfs) (k : Kont) : lturn Tryz.prog (layPc0 X U V C R) (pcFH P) 25 4 [1,5,6,7] [] [6] [] (stL 52 [1,5,6,7] [.bool b, .str s, .own 0 0 q v false, .int .i64 i] [] [] [.arr 1 rows v] D) k = (
 let c0 : Bool := decide (i < (↑s.length : Int));
 let c1 : Bool := decide (0 ≤ i) && c0;
 let n2 : Int := (↑(s.getD i.toNat 0).toNat : Int);
 let c3 : Bool := decide (0 ≤ n2 ∧ n2 ≤ 255);
 let c4 : Bool := U n2;
 let m5 : Nat := q + 1;
 let c6 : Bool := v == v && q == rows.length && decide ((2 * m5 + 1000) * 1 ≤ 281474976710656) && true;
 let m7 : Nat := v + 1;
 let n8 : Int := IntKind.i64.wrap n2;
 let m9 : Nat := m5 + (List.map (fun (c : UInt8) => [AVal.int .u8 (↑c.toNat : Int)]) (X n8 2)).length;
 let m10 : Nat := m7 + 1;
  bif c0 then bif c1 then bif c3 then bif c1 || !(!c4 && b) then bif c3 then bif decide (0 ≤ i ∧ i < (↑s.length : Int) ∧ s.length ≤ 1099511627776) then bif bif c4 then true else bif b then bif V n2 then true else C (List.drop i.toNat s) else false then bif c1 then bif c6 then k AExit.normal (stL 52 [1, 5, 6, 7] [AVal.bool b, AVal.str s, AVal.own 0 0 m5 m7 false, AVal.int .i64 (IntKind.i64.wrap (i + 1))] [] [] [Obj.arr 1 (rows.append [[AVal.int .u8 n2]]) m7] D) else none else none else bif c6 then bif c1 then bif decide (0 ≤ n8 ∧ ((2 : Int) = 2 ∧ n8 ≤ 255 ∨ (2 : Int) = 4 ∧ n8 ≤ 65535)) then bif m7 == m7 && m5 == (rows.append [[AVal.int .u8 37]]).length && decide ((2 * m9 + 1000) * 1 ≤ 281474976710656) && true then k AExit.normal (stL 52 [1, 5, 6, 7] [AVal.bool b, AVal.str s, AVal.own 0 0 m9 m10 false, AVal.int .i64 (IntKind.i64.wrap (i + 1))] [] [] [Obj.arr 1 ((rows.append [[AVal.int .u8 37]]).append (List.map (fun (c : UInt8) => [AVal.int .u8 (↑c.toNat : Int)]) (X n8 2))) m10] D) else none else none else none else none else none else none else none else none else none else k (AExit.exit 0) (stL 52 [6] [AVal.own 0 0 q v false] [] [] [Obj.arr 1 rows v] D)) := by kernel_rfl
noncomputable def layPc (X : Int → Int → Oc) (U V : Int → Bool) (C : Oc → Bool) (R : Oc → Oc) (P : PcR) : Lay := (layPc0 X U V C R).addL 25 (pcFH P)
theorem pc_fun (X : Int → Int → Oc) (U V : Int → Bool) (C : Oc → Bool) (R : Oc → Oc) (P : PcR) (b : Bool) (s : Oc) (k : Out → Ans) : iFun Tryz.prog ((layPc X U V C R P).hd Tryz.prog) (layPc X U V C R P).fhs 0 25 [.str s, .bool b] [] k = (
 let m0 : Nat := (P b (R s)).snd;
 let l1 : Oc := (P b (R s)).fst;
 let m2 : Nat := l1.length;
  bif decide (s.length ≤ 1073741824) then bif tst ((Int.toNat 0 = 0 ∧ (R s).length ≤ 1099511627776) ∧ SubTL [AVal.bool b, AVal.str (R s), AVal.list true 0 fun (x : Nat) => [], AVal.int .i64 0] [AVal.bool b, AVal.str (R s), AVal.list true 0 fun (x : Nat) => [], AVal.int .i64 (↑(Int.toNat 0) : Int)] ∧ ([] : List (List AVal)) = [] ∧ ([] : Heap) = []) then bif R s == [] then k (Out.ret (AVal.str []) []) else bif m0 == m0 && true && decide (0 + m2 ≤ (List.map (fun (c : UInt8) => [AVal.int .u8 (↑c.toNat : Int)]) l1).length) && (List.take m2 (List.drop 0 (List.map (fun (c : UInt8) => [AVal.int .u8 (↑c.toNat : Int)]) l1))).all fun (r : List AVal) => match r with | [v] => isInt IntKind.u8 v | x => false then k (Out.ret (AVal.str (List.map (fun (r : List AVal) => UInt8.ofNat (intOf (r.getD 0 AVal.undef)).toNat) (List.take m2 (List.drop 0 (List.map (fun (c : UInt8) => [AVal.int .u8 (↑c.toNat : Int)]) l1))))) [Obj.arr 1 (List.map (fun (c : UInt8) => [AVal.int .u8 (↑c.toNat : Int)]) l1) m0]) else none else none else none) := by kernel_rfl
def bareTold (B : Int → Bool) : FSp := mkFS [.i .i64] (fun xs => true) (fun xs k => k (.ret (.bool (B (aI xs 0))) []))
noncomputable def layIn0 (X : Int → Int → Oc) (B : Int → Bool) (C : Oc → List Int) : Lay := ((Lay.nil.addF 58 (hxTold X)).addF 59 (bareTold B)).addF 28 (rpcTold C)
def okCh2 (l : List Int) : Prop := ∀ c ∈ l, 0 ≤ c ∧ c ≤ 1114111
noncomputable def inSp (I : List Int → Oc) : LSp := mkL (fun vs _ H => (aS vs 0, decL (fun r => intOf (r.getD 0 .undef)) (vs.getD 1 .undef), (aI vs 2).toNat, fullOf (vs.getD 1 .undef))) (fun x => x.1.length = 0 ∧ x.2.2.1 = 0 ∧ x.2.1.length ≤ 1099511627776 ∧ okCh2 x.2.1) (fun x => [.str x.1, encL x.2.2.2 ichRow 0 x.2.1, .int .i64 x.2.2.1]) (fun _ => []) (fun _ => [])
 (fun x k => k (.exit 0) [.str (I x.2.1)] [] [])
noncomputable def inFH (I : List Int → Oc) : FH := .of [(4, loopSpec 53 [3,4,5] [] [3] [] (inSp I))]
theorem in_step (X : Int → Int → Oc) (B : Int → Bool) (C : Oc → List Int) (I : List Int → Oc) (t : Oc) (f : Bool) (l : List Int) (i : Int) (D : Dfs) (k : Kont) : lturn Tryz.prog (layIn0 X B C) (inFH I) 26 4 [3,4,5] [] [3] [] (stL 53 [3,4,5] [.str t, encL f ichRow 0 l, .int .i64 i] [] [] [] D) k = (
 let c0 : Bool := decide (i < (↑l.length : Int));
 let n1 : Int := l.getD i.toNat 0;
 let c2 : Bool := decide (t.length + 2 ≤ 4611686018427387904);
 let n3 : Int := IntKind.i64.wrap (n1 - 65536);
 let c4 : Bool := !(n3 == n3 && false);
 let n5 : Int := IntKind.i64.wrap (55296 + IntKind.i64.wrap (n3.tdiv 1024));
 let l6 : Oc := t.append [92, 117];
 let m7 : Nat := l6.length;
 let l8 : Oc := X n5 4;
 let l9 : Oc := l6.append l8;
 let n10 : Int := IntKind.i64.wrap (56320 + n3.tmod 1024);
 let l11 : Oc := l9.append [92, 117];
 let l12 : Oc := X n10 4;
 let l13 : Oc := X n1 4;
  bif c0 then bif decide (0 ≤ i) && c0 then bif B n1 then bif decide (t.length + 1 ≤ 4611686018427387904) then k AExit.normal (stL 53 [3, 4, 5] [AVal.str (t.append [byteOf [AVal.int .u8 (IntKind.u8.wrap n1)]]), AVal.list f l.length fun (i : Nat) => ichRow (l.getD i 0), AVal.int .i64 (IntKind.i64.wrap (i + 1))] [] [] [] D) else none else bif decide (n1 ≥ 65536) then bif c2 then bif c4 then bif decide (0 ≤ n5 ∧ ((4 : Int) = 2 ∧ n5 ≤ 255 ∨ (4 : Int) = 4 ∧ n5 ≤ 65535)) then bif decide (m7 + l8.length ≤ 4611686018427387904) then bif decide (l9.length + 2 ≤ 4611686018427387904) then bif c4 then bif decide (0 ≤ n10 ∧ ((4 : Int) = 2 ∧ n10 ≤ 255 ∨ (4 : Int) = 4 ∧ n10 ≤ 65535)) then bif decide (l11.length + l12.length ≤ 4611686018427387904) then k AExit.normal (stL 53 [3, 4, 5] [AVal.str (l11.append l12), AVal.list f l.length fun (i : Nat) => ichRow (l.getD i 0), AVal.int .i64 (IntKind.i64.wrap (i + 1))] [] [] [] D) else none else none else none else none else none else none else none else none else bif c2 then bif decide (0 ≤ n1 ∧ ((4 : Int) = 2 ∧ n1 ≤ 255 ∨ (4 : Int) = 4 ∧ n1 ≤ 65535)) then bif decide (m7 + l13.length ≤ 4611686018427387904) then k AExit.normal (stL 53 [3, 4, 5] [AVal.str (l6.append l13), AVal.list f l.length fun (i : Nat) => ichRow (l.getD i 0), AVal.int .i64 (IntKind.i64.wrap (i + 1))] [] [] [] D) else none else none else none else none else k (AExit.exit 0) (stL 53 [3] [AVal.str t] [] [] [] D)) := by kernel_rfl
noncomputable def layIn (X : Int → Int → Oc) (B : Int → Bool) (C : Oc → List Int) (I : List Int → Oc) : Lay := (layIn0 X B C).addL 26 (inFH I)
theorem in_fun (X : Int → Int → Oc) (B : Int → Bool) (C : Oc → List Int) (I : List Int → Oc) (s : Oc) (k : Out → Ans) : iFun Tryz.prog ((layIn X B C I).hd Tryz.prog) (layIn X B C I).fhs 0 26 [.str s] [] k = (
 let m0 : Nat := (decL (fun (r : List AVal) => intOf (r.getD 0 AVal.undef)) (AVal.list false (C s).length fun (i : Nat) => ichRow ((C s).getD i 0))).length;
  bif decide (s.length ≤ 1099511627776) then bif tst ((0 = 0 ∧ Int.toNat 0 = 0 ∧ m0 ≤ 1099511627776 ∧ okCh2 (decL (fun (r : List AVal) => intOf (r.getD 0 AVal.undef)) (AVal.list false (C s).length fun (i : Nat) => ichRow ((C s).getD i 0)))) ∧ SubTL [AVal.str [], AVal.list false (C s).length fun (i : Nat) => ichRow ((C s).getD i 0), AVal.int .i64 0] [AVal.str [], AVal.list false m0 fun (i : Nat) => ichRow ((decL (fun (r : List AVal) => intOf (r.getD 0 AVal.undef)) (AVal.list false (C s).length fun (i : Nat) => ichRow ((C s).getD i 0))).getD i 0), AVal.int .i64 (↑(Int.toNat 0) : Int)] ∧ ([] : List (List AVal)) = [] ∧ ([] : Heap) = []) then k (Out.ret (AVal.str (I (decL (fun (r : List AVal) => intOf (r.getD 0 AVal.undef)) (AVal.list false (C s).length fun (i : Nat) => ichRow ((C s).getD i 0))))) []) else none else none) := by kernel_rfl
end Go.Mu
namespace Go.Mu
open Go Go.Proofs
def hxd (d : Nat) : UInt8 := ([48, 49, 50, 51, 52, 53, 54, 55, 56, 57, 97, 98, 99, 100, 101, 102] : Oc).getD d 0
def hexB (n size : Int) : Oc := if size = 2 then [hxd (n.toNat / 16 % 16), hxd (n.toNat % 16)] else [hxd (n.toNat / 4096 % 16), hxd (n.toNat / 256 % 16), hxd (n.toNat / 16 % 16), hxd (n.toNat % 16)]
theorem hexB_len (n size : Int) : (hexB n size).length ≤ 4 := by
 unfold hexB
 split <;> simp
theorem hexB_len2 (n : Int) : (hexB n 2).length = 2 := rfl
theorem dig1 (m : Nat) (h : m < 16) : List.drop m (List.take (m + 1) ([48, 49, 50, 51, 52, 53, 54, 55, 56, 57, 97, 98, 99, 100, 101, 102] : Oc)) = [hxd m] := by
 have key : ∀ m : Fin 16, List.drop m.val (List.take (m.val + 1) ([48, 49, 50, 51, 52, 53, 54, 55, 56, 57, 97, 98, 99, 100, 101, 102] : Oc)) = [hxd m.val] := by decide
 exact key ⟨m, h⟩
theorem u64_of {m : Nat} (h : m ≤ 65535) : IntKind.u64.wrap (m : Int) = (m : Int) := by
 have e : ∀ x : Int, IntKind.u64.wrap x = x % 18446744073709551616 := fun x => by simp [IntKind.wrap, IntKind.signed, IntKind.bits]
 rw [e]; omega
theorem tdiv_of (m c : Nat) : ((m : Int)).tdiv (c : Int) = ((m / c : Nat) : Int) := rfl
theorem tmod_of (m c : Nat) : ((m : Int)).tmod (c : Int) = ((m % c : Nat) : Int) := rfl
theorem hx_step (m : Nat) (h : m ≤ 65535) : IntKind.i64.wrap (((m : Int)).tmod 16) = ((m % 16 : Nat) : Int) ∧ IntKind.i64.wrap (((m % 16 : Nat) : Int) + 1) = ((m % 16 + 1 : Nat) : Int) ∧ IntKind.u64.wrap (((m : Int)).tdiv 16) = ((m / 16 : Nat) : Int) := by
 refine ⟨?_, wrap_add1 (by omega), ?_⟩
 · rw [show ((m : Int)).tmod 16 = ((m % 16 : Nat) : Int) from tmod_of m 16, wrap_of (by omega) (by omega)]
 · rw [show ((m : Int)).tdiv 16 = ((m / 16 : Nat) : Int) from tdiv_of m 16, u64_of (by omega)]
theorem hxTold_ok : ∀ xs H k out, hxTold hexB xs H k = some out → ∃ o, CallOK Tryz.prog 58 xs H o ∧ k o = some out := mkFS_ok fun ys xs e h => by
 obtain ⟨n, z, rfl⟩ : ∃ n z, xs = [.int .i64 n, .int .i64 z] := ⟨_, _, e⟩
 have h2 : 0 ≤ n ∧ (z = 2 ∧ n ≤ 255 ∨ z = 4 ∧ n ≤ 65535) := of_decide_eq_true h
 obtain ⟨m, rfl⟩ : ∃ m : Nat, n = m := ⟨n.toNat, by omega⟩
 have hm : m ≤ 65535 := by omega
 obtain ⟨a1, a2, a3⟩ := hx_step m hm
 obtain ⟨b1, b2, b3⟩ := hx_step (m / 16) (by omega)
 obtain ⟨c1, c2, c3⟩ := hx_step (m / 16 / 16) (by omega)
 obtain ⟨d1, d2, d3⟩ := hx_step (m / 16 / 16 / 16) (by omega)
 have u := u64_of hm
 have g : ∀ q : Nat, (decide ((0 : Int) ≤ ((q % 16 : Nat) : Int)) && decide (((q % 16 : Nat) : Int) ≤ ((q % 16 + 1 : Nat) : Int)) && decide (((q % 16 + 1 : Nat) : Int) ≤ 16)) = true := fun q => by rw [dT (by omega), dT (by omega), dT (by omega)]; rfl
 have s := fun q : Nat => dig1 (q % 16) (by omega)
 rcases h2.2 with ⟨rfl, _⟩ | ⟨rfl, _⟩
 · refine ⟨_, fun k => rfl, Lay.nil_ok.callN (G := []) 9 rfl (fun k => (rhex2_fun m k).trans ?_)⟩
   simp only [u, a1, a2, a3, b1, b2, Bool.and_false, Bool.not_false, cond_true, g, Int.toNat_natCast, s]
   rfl
 · refine ⟨_, fun k => rfl, Lay.nil_ok.callN (G := []) 9 rfl (fun k => (rhex4_fun m k).trans ?_)⟩
   simp only [u, a1, a2, a3, b1, b2, b3, c1, c2, c3, d1, d2, d3, Bool.and_false, Bool.not_false, cond_true, g, Int.toNat_natCast, s]
   show k (.ret (.str [hxd (m / 16 / 16 / 16 % 16), hxd (m / 16 / 16 % 16), hxd (m / 16 % 16), hxd (m % 16)]) []) = _
   rw [show m / 16 / 16 / 16 = m / 4096 by omega, show m / 16 / 16 = m / 256 by omega]
   rfl
def unrM (n : Int) : Bool := bif bif bif bif bif rLtr n then true else rDgt n then true else n == 45 then true else n == 46 then true else n == 95 then true else n == 126
def resM (n : Int) : Bool := anyI [33, 35, 36, 38, 42, 43, 44, 47, 58, 59, 61, 63, 64, 91, 93] n
def bareM (n : Int) : Bool := bif bif decide (n < 128) then decide (n ≥ 0) else false then bif bif bif bif bif rLtr (IntKind.u8.wrap n) then true else rDgt (IntKind.u8.wrap n) then true else n == 32 then true else n == 95 then true else n == 46 then true else n == 44 else false
theorem layUr_ok : layUr.OK Tryz.prog := ((Lay.nil_ok.addF (octTold_ok rLetter_fun)).addF (octTold_ok rDigit_fun)).addF hasTold_ok
theorem unrTold_ok : ∀ xs H k out, obTold unrM xs H k = some out → ∃ o, CallOK Tryz.prog 55 xs H o ∧ k o = some out := mkFS_ok fun ys xs e h => by
 obtain ⟨n, rfl⟩ : ∃ n, xs = [.int .u8 n] := ⟨_, e⟩
 exact ⟨_, fun k => rfl, layUr_ok.callF (G := []) rfl (fun k => unr_fun n k)⟩
theorem resTold_ok : ∀ xs H k out, obTold resM xs H k = some out → ∃ o, CallOK Tryz.prog 56 xs H o ∧ k o = some out := mkFS_ok fun ys xs e h => by
 obtain ⟨n, rfl⟩ : ∃ n, xs = [.int .u8 n] := ⟨_, e⟩
 exact ⟨_, fun k => rfl, layUr_ok.callF (G := []) rfl (fun k => res_fun n k)⟩
theorem bareTold_ok : ∀ xs H k out, bareTold bareM xs H k = some out → ∃ o, CallOK Tryz.prog 59 xs H o ∧ k o = some out := mkFS_ok fun ys xs e h => by
 obtain ⟨n, rfl⟩ : ∃ n, xs = [.int .i64 n] := ⟨_, e⟩
 exact ⟨_, fun k => rfl, layUr_ok.callF (G := []) rfl (fun k => bare_fun n k)⟩
def rcdS (t : Oc) : Bool := bif bif t.getD 0 0 == 37 then decide (2 < t.length) else false then decide (2 ≤ runQ true (t.drop 1)) else false
theorem rcdTold_ok : ∀ xs H k out, cdTold rcdS xs H k = some out → ∃ o, CallOK Tryz.prog 57 xs H o ∧ k o = some out := mkFS_ok fun ys xs e h => by
 obtain ⟨s, n, rfl⟩ : ∃ s n, xs = [.str s, .int .i64 n] := ⟨_, _, e⟩
 have h2 : 0 ≤ n ∧ n < s.length ∧ s.length ≤ 1099511627776 := of_decide_eq_true h
 obtain ⟨i, rfl⟩ : ∃ i : Nat, n = i := ⟨n.toNat, by omega⟩
 have hL : layCo.OK Tryz.prog := Lay.nil_ok.addF runTold_ok'
 refine ⟨_, fun k => rfl, hL.callF (G := []) rfl (fun k => (rcoded_fun s i k).trans ?_)⟩
 have w1 : IntKind.i64.wrap ((i : Int) + 1) = ((i + 1 : Nat) : Int) := wrap_add1 (by omega)
 have w2 : IntKind.i64.wrap ((i : Int) + 2) = ((i + 2 : Nat) : Int) := by rw [wrap_of (by omega) (by omega)]; omega
 have q37 : (((s.getD i 0).toNat : Int) == 37) = (s.getD i 0 == 37) := eqc (by decide)
 show _ = k (.ret (.bool (rcdS (s.drop i))) [])
 have hd : (s.drop i).length = s.length - i := List.length_drop
 have hg : (s.drop i).getD 0 0 = s.getD i 0 := by rw [List.getD_drop]; rfl
 simp only [w1, w2, q37, Int.toNat_natCast, dT (show (0 : Int) ≤ (i : Int) by omega), dT (show (i : Int) < s.length by omega), Bool.and_self, cond_true]
 refine cT (dT ⟨by omega, by omega, by omega⟩) ?_
 unfold rcdS
 rw [hg, hd, List.drop_drop]
 have e1 : decide (((i + 2 : Nat) : Int) < (s.length : Int)) = decide (2 < s.length - i) := by
  by_cases hx : 2 < s.length - i
  · rw [dT hx, dT (by omega)]
  · rw [dF hx, dF (by omega)]
 have e2 : decide ((↑(runQ true (List.drop (i + 1) s)) : Int) ≥ 2) = decide (2 ≤ runQ true (List.drop (i + 1) s)) := by
  by_cases hx : 2 ≤ runQ true (List.drop (i + 1) s)
  · rw [dT hx, dT (by omega)]
  · rw [dF hx, dF (by omega)]
 rw [e1, e2]
def pcMay (b : Bool) (t : Oc) (i : Nat) : Bool := bif unrM ((t.getD i 0).toNat : Int) then true else bif b then (bif resM ((t.getD i 0).toNat : Int) then true else rcdS (t.drop i)) else false
def pcG (b : Bool) (t : Oc) (i : Nat) : Oc := bif pcMay b t i then [t.getD i 0] else 37 :: hexB (t.getD i 0).toNat 2
def pcW (b : Bool) (t : Oc) : Nat → Nat
 | 0 => 0
 | i + 1 => pcW b t i + (bif pcMay b t i then 1 else 2)
def pcT (b : Bool) (t : Oc) (i : Nat) : Oc := (List.range i).flatMap (pcG b t)
theorem pcG_len (b : Bool) (t : Oc) (i : Nat) : (pcG b t i).length ≤ 3 := by
 unfold pcG
 have := hexB_len2 ((t.getD i 0).toNat : Int)
 cases pcMay b t i
 · simp only [cond_false, List.length_cons, this]; omega
 · simp
def pcRR : PcR := fun b t => (pcT b t t.length, pcW b t t.length - 1)
noncomputable abbrev pcTurn := lturn Tryz.prog (layPc0 hexB unrM resM rcdS rpP) (pcFH pcRR) 25 4 [1,5,6,7] [] [6] []
theorem pcW_pos (b : Bool) (t : Oc) (i : Nat) : 1 ≤ pcW b t (i + 1) := by
 unfold pcW
 cases pcMay b t i <;> simp <;> omega
theorem pc_rd0 (b : Bool) (t : Oc) (h : 0 < t.length) (ht : t.length ≤ 1099511627776) (D : Dfs) (k : Kont) :
 pcTurn (stL 52 [1,5,6,7] [.bool b, .str t, nilList, .int .i64 ((0 : Nat) : Int)] [] [] [] D) k = k .normal (stL 52 [1,5,6,7] [.bool b, .str t, .own 0 0 (pcT b t 1).length (pcW b t 1 - 1) false, .int .i64 ((1 : Nat) : Int)] [] [] [.arr 1 ((pcT b t 1).map byteRow) (pcW b t 1 - 1)] D) := by
 refine (pc_s0 hexB unrM resM rcdS rpP pcRR b t ((0 : Nat) : Int) D k).trans ?_
 have e1 : IntKind.i64.wrap (((0 : Nat) : Int) + 1) = ((1 : Nat) : Int) := wrap_add1 (by omega)
 have hb := (t.getD 0 0).toNat_lt
 have wn : IntKind.i64.wrap ((t.getD 0 0).toNat : Int) = ((t.getD 0 0).toNat : Int) := wrap_of (by omega) (by omega)
 have hx := hexB_len2 ((t.getD 0 0).toNat : Int)
 have eT : pcT b t 1 = pcG b t 0 := by unfold pcT; rw [show (1 : Nat) = 0 + 1 from rfl, range_flat]; rfl
 have eW : pcW b t 1 = (bif pcMay b t 0 then 1 else 2) := by unfold pcW pcW; rw [Nat.zero_add]
 rw [eT, eW]
 simp only [Int.toNat_natCast, e1, wn, dT (show ((0 : Nat) : Int) < t.length by omega), dT (show (0 : Int) ≤ ((0 : Nat) : Int) by omega), dT (show (0 : Int) ≤ ((t.getD 0 0).toNat : Int) ∧ ((t.getD 0 0).toNat : Int) ≤ 255 by omega), dT (show (0 : Int) ≤ ((0 : Nat) : Int) ∧ ((0 : Nat) : Int) < t.length ∧ t.length ≤ 1099511627776 by omega), Bool.and_self, Bool.true_or, cond_true]
 show cond (pcMay b t 0) _ _ = _
 unfold pcG
 cases pcMay b t 0 with
 | true => rfl
 | false =>
  refine cT (dT ⟨by omega, .inl ⟨by trivial, by omega⟩⟩) ?_
  rw [List.length_map, hx]
  rfl
theorem pc_rd1 (b : Bool) (t : Oc) (ht : t.length ≤ 1099511627776) (i : Nat) (h : i + 1 < t.length) (D : Dfs) (k : Kont) :
 pcTurn (stL 52 [1,5,6,7] [.bool b, .str t, .own 0 0 (pcT b t (i + 1)).length (pcW b t (i + 1) - 1) false, .int .i64 ((i + 1 : Nat) : Int)] [] [] [.arr 1 ((pcT b t (i + 1)).map byteRow) (pcW b t (i + 1) - 1)] D) k = k .normal (stL 52 [1,5,6,7] [.bool b, .str t, .own 0 0 (pcT b t (i + 2)).length (pcW b t (i + 2) - 1) false, .int .i64 ((i + 2 : Nat) : Int)] [] [] [.arr 1 ((pcT b t (i + 2)).map byteRow) (pcW b t (i + 2) - 1)] D) := by
 refine (pc_s1 hexB unrM resM rcdS rpP pcRR b t ((i + 1 : Nat) : Int) _ _ _ D k).trans ?_
 have e1 : IntKind.i64.wrap (((i + 1 : Nat) : Int) + 1) = ((i + 2 : Nat) : Int) := wrap_add1 (by omega)
 have hb := (t.getD (i + 1) 0).toNat_lt
 have wn : IntKind.i64.wrap ((t.getD (i + 1) 0).toNat : Int) = ((t.getD (i + 1) 0).toNat : Int) := wrap_of (by omega) (by omega)
 have hx := hexB_len2 ((t.getD (i + 1) 0).toNat : Int)
 have hl := flat_len (pcG b t) 3 (pcG_len b t) (List.range (i + 1))
 rw [List.length_range] at hl
 have hl : (pcT b t (i + 1)).length ≤ 3 * (i + 1) := hl
 have hp := pcW_pos b t i
 have eT : pcT b t (i + 2) = pcT b t (i + 1) ++ pcG b t (i + 1) := by unfold pcT; rw [range_flat]
 have eW : pcW b t (i + 2) = pcW b t (i + 1) + (bif pcMay b t (i + 1) then 1 else 2) := rfl
 rw [eT, eW]
 generalize pcT b t (i + 1) = T at hl ⊢
 generalize pcW b t (i + 1) = w at hp ⊢
 simp only [Int.toNat_natCast, e1, wn, List.length_map, beq_self_eq_true, dT (show ((i + 1 : Nat) : Int) < t.length by omega), dT (show (0 : Int) ≤ ((i + 1 : Nat) : Int) by omega), dT (show (0 : Int) ≤ ((t.getD (i + 1) 0).toNat : Int) ∧ ((t.getD (i + 1) 0).toNat : Int) ≤ 255 by omega), dT (show (0 : Int) ≤ ((i + 1 : Nat) : Int) ∧ ((i + 1 : Nat) : Int) < t.length ∧ t.length ≤ 1099511627776 by omega), dT (show (2 * (T.length + 1) + 1000) * 1 ≤ 281474976710656 by omega), Bool.and_self, Bool.true_or, cond_true]
 show cond (pcMay b t (i + 1)) _ _ = _
 unfold pcG
 cases pcMay b t (i + 1) with
 | true =>
  simp only [cond_true, List.map_append, List.length_append, List.append_eq]
  rw [show w + 1 - 1 = w - 1 + 1 by omega]
  rfl
 | false =>
  simp only [cond_false]
  refine cT (dT ⟨by omega, .inl ⟨by trivial, by omega⟩⟩) ?_
  have er : (T.length + 1 == ((T.map byteRow).append [[AVal.int .u8 37]]).length) = true := by
   rw [List.append_eq, List.length_append, List.length_map]; exact beq_self_eq_true _
  rw [er]
  simp only [hx, dT (show (2 * (T.length + 1 + 2) + 1000) * 1 ≤ 281474976710656 by omega), Bool.and_self, cond_true, List.map_append, List.length_append, List.append_eq, List.length_cons]
  rw [show w + 2 - 1 = w - 1 + 1 + 1 by omega, show T.length + (2 + 1) = T.length + 1 + 2 by omega, List.append_assoc]
  rfl
theorem pcSp_ok : SpOK pcTurn 52 [1,5,6,7] [] [6] [] (pcSp pcRR) := mkL_ok fun a h => by
 obtain ⟨b, t, i⟩ := a
 obtain ⟨h1, h2⟩ := h
 simp only at h1 h2
 subst h1
 show ∃ e vs bs H', (∀ k : AExit → List AVal → List (List AVal) → Heap → Ans, cond (t == []) _ _ = k e vs bs H') ∧ _
 by_cases h0 : t = []
 · subst h0
   exact ⟨_, _, _, _, fun k => rfl, .stop (by simp) (fun D k => (pc_s0 hexB unrM resM rcdS rpP pcRR b [] ((0 : Nat) : Int) D k).trans rfl)⟩
 · have hb : (t == []) = false := by simpa using h0
   have hl : 0 < t.length := List.length_pos_iff.2 h0
   rw [hb]
   refine ⟨_, _, _, _, fun k => rfl, ?_⟩
   obtain ⟨n, hn⟩ : ∃ n, t.length = n + 1 := ⟨t.length - 1, by omega⟩
   have key := seq_runs (turn := pcTurn) (n := 52) (l := [1,5,6,7]) (m := []) (lx := [6]) (mx := []) (e := .exit 0) (fun i => match i with | 0 => [.bool b, .str t, nilList, .int .i64 ((0 : Nat) : Int)] | i + 1 => [.bool b, .str t, .own 0 0 (pcT b t (i + 1)).length (pcW b t (i + 1) - 1) false, .int .i64 ((i + 1 : Nat) : Int)]) (fun _ => []) (fun i => match i with | 0 => [] | i + 1 => [.arr 1 ((pcT b t (i + 1)).map byteRow) (pcW b t (i + 1) - 1)]) (n + 1) (by simp)
    (fun i hi D k => match i with | 0 => pc_rd0 b t hl h2 D k | i + 1 => pc_rd1 b t h2 i (by omega) D k)
    (fun D k => by
     refine (pc_s1 hexB unrM resM rcdS rpP pcRR b t ((n + 1 : Nat) : Int) _ _ _ D k).trans ?_
     rw [dF (show ¬ ((n + 1 : Nat) : Int) < t.length by omega), cond_false])
   rw [← hn] at key
   exact key
theorem layPc0_ok : (layPc0 hexB unrM resM rcdS rpP).OK Tryz.prog := ((((Lay.nil_ok.addF hxTold_ok).addF unrTold_ok).addF resTold_ok).addF rcdTold_ok).addF rrTold_ok
theorem layPc_ok : (layPc hexB unrM resM rcdS rpP pcRR).OK Tryz.prog := layPc0_ok.loop1 (id := 4) (by kernel_rfl) (by kernel_rfl) (by kernel_rfl) pcSp_ok
def pcP (b : Bool) (s : Oc) : Oc := pcT b (rpP s) (rpP s).length
theorem pcP_len (b : Bool) (s : Oc) : (pcP b s).length ≤ 12 * s.length := by
 have := flat_len (pcG b (rpP s)) 3 (pcG_len b (rpP s)) (List.range (rpP s).length)
 rw [List.length_range] at this
 have := rpP_len s
 unfold pcP pcT
 omega
theorem pc_ok (b : Bool) (s : Oc) (hs : s.length ≤ 1073741824) : CallOK Tryz.prog 25 [.str s, .bool b] [] (.ret (.str (pcP b s)) []) := by
 have hlen := rpP_len s
 have key := fun k => pc_fun hexB unrM resM rcdS rpP pcRR b s k
 simp only [dT hs, cond_true] at key
 replace key := fun k => (key k).trans ((congrArg (fun c => cond c _ none) (tst_true ⟨⟨rfl, by omega⟩, .refl _, by trivial⟩)).trans (cond_true _ _))
 cases hb : rpP s == [] with
 | true =>
  have h0 : rpP s = [] := by simpa using hb
  refine layPc_ok.callF (G := []) rfl (fun k => (key k).trans ?_)
  rw [hb, cond_true]
  show _ = k (.ret (.str (pcT b (rpP s) (rpP s).length)) [])
  rw [h0]; rfl
 | false =>
  refine layPc_ok.callF (G := [.arr 1 ((pcP b s).map byteRow) (pcW b (rpP s) (rpP s).length - 1)]) rfl (fun k => (key k).trans ?_)
  rw [hb, cond_false]
  exact fin_bytes (pcP b s) (pcW b (rpP s) (rpP s).length - 1) _ k
def inB (c : Int) : Oc := if bareM c = true then [byteOf [.int .u8 (IntKind.u8.wrap c)]] else if c ≥ 65536 then [92, 117] ++ hexB (55296 + (c - 65536) / 1024) 4 ++ [92, 117] ++ hexB (56320 + (c - 65536) % 1024) 4 else [92, 117] ++ hexB c 4
theorem inB_len (c : Int) : (inB c).length ≤ 12 := by
 have h1 := hexB_len (55296 + (c - 65536) / 1024) 4
 have h2 := hexB_len (56320 + (c - 65536) % 1024) 4
 have h3 := hexB_len c 4
 unfold inB
 split
 · simp
 split
 · simp only [List.length_append, List.length_cons, List.length_nil]; omega
 · simp only [List.length_append, List.length_cons, List.length_nil]; omega
def inT (l : List Int) : Oc := l.flatMap inB
noncomputable abbrev inTurn := lturn Tryz.prog (layIn0 hexB bareM chP) (inFH inT) 26 4 [3,4,5] [] [3] []
theorem in_rd (t : Oc) (ht : t.length ≤ 1000000000000000) (f : Bool) (l : List Int) (hl : l.length ≤ 1099511627776) (i : Nat) (hi : i < l.length) (hc : 0 ≤ l.getD i 0 ∧ l.getD i 0 ≤ 1114111) (D : Dfs) (k : Kont) :
 inTurn (stL 53 [3,4,5] [.str t, encL f ichRow 0 l, .int .i64 (i : Nat)] [] [] [] D) k = k .normal (stL 53 [3,4,5] [.str (t ++ inB (l.getD i 0)), encL f ichRow 0 l, .int .i64 ((i + 1 : Nat) : Int)] [] [] [] D) := by
 refine (in_step hexB bareM chP inT t f l i D k).trans ?_
 have e1 : IntKind.i64.wrap ((i : Int) + 1) = ((i + 1 : Nat) : Int) := wrap_add1 (by omega)
 simp only [e1, Int.toNat_natCast, Bool.and_false, Bool.not_false, dT (show (i : Int) < l.length by omega), dT (show (0 : Int) ≤ (i : Int) by omega), dT (show t.length + 2 ≤ 4611686018427387904 by omega), Bool.and_self, cond_true]
 unfold inB
 cases hb : bareM (l.getD i 0) with
 | true =>
  rw [if_pos rfl]
  exact (congrArg (fun b => cond b _ none) (dT (show t.length + 1 ≤ 4611686018427387904 by omega))).trans rfl
 | false =>
  rw [cond_false, if_neg (by simp)]
  by_cases h6 : (l.getD i 0) ≥ 65536
  · rw [if_pos h6]
    have w3 : IntKind.i64.wrap ((l.getD i 0) - 65536) = (l.getD i 0) - 65536 := wrap_of (by omega) (by omega)
    have td : ((l.getD i 0) - 65536).tdiv 1024 = ((l.getD i 0) - 65536) / 1024 := Int.tdiv_eq_ediv_of_nonneg (by omega)
    have tm : ((l.getD i 0) - 65536).tmod 1024 = ((l.getD i 0) - 65536) % 1024 := Int.tmod_eq_emod_of_nonneg (by omega)
    have w5 : IntKind.i64.wrap (55296 + IntKind.i64.wrap (((l.getD i 0) - 65536) / 1024)) = 55296 + ((l.getD i 0) - 65536) / 1024 := by rw [wrap_of (n := ((l.getD i 0) - 65536) / 1024) (by omega) (by omega), wrap_of (by omega) (by omega)]
    have w10 : IntKind.i64.wrap (56320 + ((l.getD i 0) - 65536) % 1024) = 56320 + ((l.getD i 0) - 65536) % 1024 := wrap_of (by omega) (by omega)
    have h1 := hexB_len (55296 + ((l.getD i 0) - 65536) / 1024) 4
    have h2 := hexB_len (56320 + ((l.getD i 0) - 65536) % 1024) 4
    simp only [w3, td, tm, w5, w10, dT h6, cond_true]
    refine cT (dT ⟨by omega, .inr ⟨by trivial, by omega⟩⟩) ?_
    refine cT (dT (by simp only [List.append_eq, List.length_append, List.length_cons, List.length_nil]; omega)) ?_
    refine cT (dT (by simp only [List.append_eq, List.length_append, List.length_cons, List.length_nil]; omega)) ?_
    refine cT (dT ⟨by omega, .inr ⟨by trivial, by omega⟩⟩) ?_
    refine cT (dT (by simp only [List.append_eq, List.length_append, List.length_cons, List.length_nil]; omega)) ?_
    simp only [List.append_eq, List.append_assoc]
  · rw [if_neg h6, dF h6, cond_false]
    have h3 := hexB_len (l.getD i 0) 4
    refine cT (dT ⟨by omega, .inr ⟨by trivial, by omega⟩⟩) ?_
    refine cT (dT (by simp only [List.append_eq, List.length_append, List.length_cons, List.length_nil]; omega)) ?_
    simp only [List.append_eq, List.append_assoc]
theorem inSp_ok : SpOK inTurn 53 [3,4,5] [] [3] [] (inSp inT) := mkL_ok fun a h => by
 obtain ⟨t, l, i, f⟩ := a
 obtain ⟨h1, h2, h3, h4⟩ := h
 simp only at h1 h2 h3 h4
 subst h2
 obtain rfl : t = [] := List.eq_nil_of_length_eq_zero h1
 refine ⟨_, _, _, _, fun k => rfl, ?_⟩
 have key := seq_runs (turn := inTurn) (n := 53) (l := [3,4,5]) (m := []) (lx := [3]) (mx := []) (fun i => [.str ((l.take i).flatMap inB), encL f ichRow 0 l, .int .i64 (i : Nat)]) (fun _ => []) (fun _ => []) l.length (e := .exit 0) (by simp)
  (fun i hi D k => by
   have := flat_len_take inB 12 inB_len l i
   refine (in_rd _ (by omega) f l h3 i hi (h4 _ (by rw [List.getD_eq_getElem?_getD, List.getElem?_eq_getElem hi]; exact List.getElem_mem hi)) D k).trans ?_
   rw [take_flat l 0 inB i hi])
  (fun D k => by
   refine (in_step hexB bareM chP inT _ f l l.length D k).trans ?_
   rw [dF (show ¬ (l.length : Int) < l.length by omega), cond_false])
 rw [List.take_of_length_le (Nat.le_refl _)] at key
 exact key
theorem layIn0_ok : (layIn0 hexB bareM chP).OK Tryz.prog := ((Lay.nil_ok.addF hxTold_ok).addF bareTold_ok).addF rcTold_ok
theorem layIn_ok : (layIn hexB bareM chP inT).OK Tryz.prog := layIn0_ok.loop1 (id := 4) (by kernel_rfl) (by kernel_rfl) (by kernel_rfl) inSp_ok
def inP (s : Oc) : Oc := inT (chP s)
theorem inP_len (s : Oc) : (inP s).length ≤ 12 * s.length := by
 have := flat_len inB 12 inB_len (chP s)
 have := chP_len s
 unfold inP inT
 omega
theorem in_ok (s : Oc) (hs : s.length ≤ 1099511627776) : CallOK Tryz.prog 26 [.str s] [] (.ret (.str (inP s)) []) := by
 have hd : decL (fun (r : List AVal) => intOf (r.getD 0 AVal.undef)) (AVal.list false (chP s).length fun (i : Nat) => ichRow ((chP s).getD i 0)) = chP s := decL_encL (fun a => rfl) (chP s)
 have hlen := chP_len s
 have hk : okCh2 (chP s) := fun c hc => by
  have := chP_ok s c hc
  omega
 have key := fun k => in_fun hexB bareM chP inT s k
 simp only [hd, dT hs, cond_true] at key
 exact layIn_ok.callF (G := []) rfl (fun k => (key k).trans ((congrArg (fun c => cond c _ none) (tst_true ⟨⟨by trivial, by trivial, by omega, hk⟩, .refl _, by trivial⟩)).trans (cond_true _ _)))
end Go.Mu
namespace Go.Mu
open Go Go.Proofs
end Go.Mu
namespace Go.Mu
open Go Go.Proofs
theorem oneQ_ne38 (c : UInt8) (r : Oc) (h : c ≠ 38) : oneQ (c :: r) = ([], 0) := by
 have e : ((38 : UInt8) == c) = false := by
  cases hh : (38 : UInt8) == c with
  | false => rfl
  | true => exact absurd (by simpa using hh : (38 : UInt8) = c).symm h
 unfold oneQ
 simp only [List.isPrefixOf, e, Bool.false_and, cond_false, Bool.not_false, cond_true]
theorem oneQ_num (a b : UInt8) (r : Oc) (ha : dgt false a = true) (hb : dgt false b = true) (h1 : (a == 120 || a == 88) = false) : oneQ (38 :: 35 :: a :: b :: 59 :: r) = (refC (numN false 0 [a, b]), 5) := by
 have e1 : oneQ (38 :: 35 :: a :: b :: 59 :: r) = onQ (38 :: 35 :: a :: b :: 59 :: r) 2 false := by
  have hx : hxQ (38 :: 35 :: a :: b :: 59 :: r) = false := by
   unfold hxQ
   show (_ && (a == 120 || a == 88)) = false
   rw [h1, Bool.and_false]
  have g : ∀ c : UInt8, (c == 35) = false → List.isPrefixOf (c :: ([] : Oc)) [35] = false := fun c h => by simp [List.isPrefixOf, h]
  unfold oneQ
  rw [hx]
  rfl
 have er : runQ false (a :: b :: 59 :: r) = 2 := by
  rw [runQ_cons, ha, cond_true, runQ_cons, hb, cond_true, runQ_cons]
  rfl
 rw [e1]
 unfold onQ
 rw [show List.drop 2 (38 :: 35 :: a :: b :: 59 :: r) = a :: b :: 59 :: r from rfl, er]
 have : decide (2 + 2 < (38 :: 35 :: a :: b :: 59 :: r).length) = true := dT (by simp)
 rw [this]
 rfl
theorem one_esc (c : UInt8) (r : Oc) : (escC c = [c] ∧ oneQ (escC c ++ r) = ([], 0)) ∨ (oneQ (escC c ++ r) = ([c], (escC c).length) ∧ 0 < (escC c).length) := by
 by_cases h1 : c = 38
 · subst h1; exact .inr ⟨rfl, by decide⟩
 by_cases h2 : c = 60
 · subst h2; exact .inr ⟨rfl, by decide⟩
 by_cases h3 : c = 62
 · subst h3; exact .inr ⟨rfl, by decide⟩
 by_cases h4 : c = 34
 · subst h4; exact .inr ⟨(oneQ_num 51 52 r rfl rfl rfl).trans rfl, by decide⟩
 by_cases h5 : c = 39
 · subst h5; exact .inr ⟨(oneQ_num 51 57 r rfl rfl rfl).trans rfl, by decide⟩
 by_cases h6 : c = 43
 · subst h6; exact .inr ⟨(oneQ_num 52 51 r rfl rfl rfl).trans rfl, by decide⟩
 have e : escC c = [c] := by
  unfold escC
  rw [beq_false_of_ne h1, beq_false_of_ne h2, beq_false_of_ne h3, beq_false_of_ne h4, beq_false_of_ne h5, beq_false_of_ne h6]
  rfl
 rw [e]
 exact .inl ⟨rfl, oneQ_ne38 c r h1⟩
theorem escT_cons (c : UInt8) (t : Oc) : escT (c :: t) = escC c ++ escT t := by unfold escT; rw [List.flatMap_cons]
theorem escC_ne (c : UInt8) : escC c ≠ [] := by
 unfold escC
 cases c == 38 <;> cases c == 60 <;> cases c == 62 <;> cases c == 34 <;> cases c == 39 <;> cases c == 43 <;> simp
theorem decR_esc : ∀ (t : Oc) (m : Nat), (escT t).length ≤ m → (escT t).length ≤ 1099511627776 → decR m (escT t) = t
 | [], m, _, _ => by cases m <;> rfl
 | c :: t, m, hm, hl => by
  rw [escT_cons] at hm hl ⊢
  have hne := escC_ne c
  have hp : 0 < (escC c).length := List.length_pos_iff.2 hne
  rw [List.length_append] at hm hl
  obtain ⟨m, rfl⟩ : ∃ j, m = j + 1 := ⟨m - 1, by omega⟩
  have hb : (escC c ++ escT t == []) = false := by
   cases he : escC c with
   | nil => exact absurd he hne
   | cons x y => rfl
  rw [decR, hb, cond_false, oneP_Q _ (by rw [List.length_append]; omega)]
  rcases one_esc c (escT t) with ⟨h1, h2⟩ | ⟨h1, h2⟩
  · rw [h2, dF (by omega), cond_false, h1]
    rw [h1] at hm hl hp
    simp only [List.length_singleton] at hm hl
    exact congrArg (c :: ·) (decR_esc t m (by omega) (by omega))
  · rw [h1, dT h2, cond_true, List.drop_left]
    exact congrArg (c :: ·) (decR_esc t m (by omega) (by omega))
theorem dec_esc (t : Oc) (h : (escT t).length ≤ 1099511627776) : decP (escT t) = t := decR_esc t _ (Nat.le_refl _) h
theorem hxd_ok (d : Nat) (h : d < 16) : dgt true (hxd d) = true ∧ dvl (hxd d) = d ∧ ascB (hxd d) = true := by
 have key : ∀ m : Fin 16, dgt true (hxd m.val) = true ∧ dvl (hxd m.val) = m.val ∧ ascB (hxd m.val) = true := by decide +kernel
 exact key ⟨d, h⟩
theorem unh4 (n : Int) (h0 : 0 ≤ n) (h1 : n ≤ 65535) : ∃ a b c d, hexB n 4 = [a, b, c, d] ∧ unhexM [a, b, c, d] = (n, 0) ∧ [a, b, c, d].all ascB = true := by
 obtain ⟨m, rfl⟩ : ∃ m : Nat, n = m := ⟨n.toNat, by omega⟩
 obtain ⟨a1, a2, a3⟩ := hxd_ok (m / 4096 % 16) (by omega)
 obtain ⟨b1, b2, b3⟩ := hxd_ok (m / 256 % 16) (by omega)
 obtain ⟨c1, c2, c3⟩ := hxd_ok (m / 16 % 16) (by omega)
 obtain ⟨d1, d2, d3⟩ := hxd_ok (m % 16) (by omega)
 refine ⟨hxd (m / 4096 % 16), hxd (m / 256 % 16), hxd (m / 16 % 16), hxd (m % 16), rfl, ?_, ?_⟩
 · have hall : [hxd (m / 4096 % 16), hxd (m / 256 % 16), hxd (m / 16 % 16), hxd (m % 16)].all (dgt true) = true := by
    simp only [List.all_cons, List.all_nil, a1, b1, c1, d1, Bool.and_self]
   rw [(unh_yes hall (by simp) (by simp)).1]
   have : hexN [hxd (m / 4096 % 16), hxd (m / 256 % 16), hxd (m / 16 % 16), hxd (m % 16)] = m := by
    unfold hexN
    rw [numN_cons, numN_cons, numN_cons, numN_cons, a2, b2, c2, d2]
    show ((((0 * 16 + m / 4096 % 16) * 16 + m / 256 % 16) * 16 + m / 16 % 16) * 16 + m % 16) = m
    omega
   rw [this]
 · simp only [List.all_cons, List.all_nil, a3, b3, c3, d3, Bool.and_self]
theorem jo_one (n : Int) (a b c d : UInt8) (r : Oc) (hu : unhexM [a, b, c, d] = (n, 0)) (hn : ¬ (55296 ≤ n ∧ n ≤ 57343)) : joS (92 :: 117 :: a :: b :: c :: d :: r) = (encX n, 6, true) := by
 unfold joS
 rw [if_neg (by simp), if_pos (by rfl)]
 unfold joU
 rw [if_neg (by simp), show ((92 :: 117 :: a :: b :: c :: d :: r).drop 2).take 4 = [a, b, c, d] from rfl, hu, if_neg (by simp), if_neg (fun h => hn ⟨h.1.1, by have := h.1.2; simp only at this; omega⟩), if_neg hn]
theorem jo_two (n p : Int) (a b c d a' b' c' d' : UInt8) (r : Oc) (hu : unhexM [a, b, c, d] = (n, 0)) (hp : unhexM [a', b', c', d'] = (p, 0)) (hn : 55296 ≤ n ∧ n < 56320) (hq : 56320 ≤ p ∧ p ≤ 57343) :
 joS (92 :: 117 :: a :: b :: c :: d :: 92 :: 117 :: a' :: b' :: c' :: d' :: r) = (encX (65536 + (n - 55296) * 1024 + p - 56320), 12, true) := by
 have hj : joLow (92 :: 117 :: a :: b :: c :: d :: 92 :: 117 :: a' :: b' :: c' :: d' :: r) = true := by
  unfold joLow
  rw [show ((92 :: 117 :: a :: b :: c :: d :: 92 :: 117 :: a' :: b' :: c' :: d' :: r).drop 8).take 4 = [a', b', c', d'] from rfl, hp, dT (show 12 ≤ (92 :: 117 :: a :: b :: c :: d :: 92 :: 117 :: a' :: b' :: c' :: d' :: r).length by simp)]
  simp only
  rw [dT (show p ≥ 56320 from hq.1), dT hq.2]
  rfl
 unfold joS
 rw [if_neg (by simp), if_pos (by rfl)]
 unfold joU
 rw [if_neg (by simp), show ((92 :: 117 :: a :: b :: c :: d :: 92 :: 117 :: a' :: b' :: c' :: d' :: r).drop 2).take 4 = [a, b, c, d] from rfl, hu, if_neg (by simp), if_pos ⟨hn, hj⟩,
  show ((92 :: 117 :: a :: b :: c :: d :: 92 :: 117 :: a' :: b' :: c' :: d' :: r).drop 8).take 4 = [a', b', c', d'] from rfl, hp]
theorem bare_ok (c : Int) (h : bareM c = true) : ∃ b : UInt8, byteOf [.int .u8 (IntKind.u8.wrap c)] = b ∧ b ≠ 92 ∧ endC b = false ∧ encX c = [b] ∧ ascB b = true := by
 have h01 : 0 ≤ c ∧ c < 128 := by
  unfold bareM at h
  by_cases h1 : c < 128
  · by_cases h2 : c ≥ 0
    · exact ⟨h2, h1⟩
    · rw [dT h1, dF h2] at h; cases h
  · rw [dF h1] at h; cases h
 have key : ∀ m : Fin 128, bareM (m.val : Int) = true → byteOf [.int .u8 (IntKind.u8.wrap (m.val : Int))] ≠ 92 ∧ endC (byteOf [.int .u8 (IntKind.u8.wrap (m.val : Int))]) = false ∧ encX (m.val : Int) = [byteOf [.int .u8 (IntKind.u8.wrap (m.val : Int))]] ∧ ascB (byteOf [.int .u8 (IntKind.u8.wrap (m.val : Int))]) = true := by decide +kernel
 obtain ⟨m, rfl⟩ : ∃ m : Nat, c = m := ⟨c.toNat, by omega⟩
 exact ⟨_, rfl, key ⟨m, by omega⟩ h⟩
theorem in_asc (c : Int) (h : 0 < c ∧ c ≤ 1114111) : (inB c).all ascB = true := by
 unfold inB
 split
 · rename_i hb
   obtain ⟨b, e, _, _, _, h4⟩ := bare_ok c hb
   rw [e, List.all_cons, h4]; rfl
 split
 · obtain ⟨a, b, c', d, e1, _, e3⟩ := unh4 (55296 + (c - 65536) / 1024) (by omega) (by omega)
   obtain ⟨a2, b2, c2, d2, f1, _, f3⟩ := unh4 (56320 + (c - 65536) % 1024) (by omega) (by omega)
   rw [e1, f1, List.all_append, List.all_append, List.all_append, e3, f3]
   rfl
 · obtain ⟨a, b, c', d, e1, _, e3⟩ := unh4 c (by omega) (by omega)
   rw [e1, List.all_append, e3]
   rfl
theorem inP_asc (s : Oc) : ascL (inP s) := ascL_flat (fun c hc => ascL_of (in_asc c ⟨(chP_ok s c hc).1, (chP_ok s c hc).2.1⟩))
theorem escP_len (s : Oc) : (escP s).length ≤ 5 * (rpP s).length := flat_len escC 5 escC_len (rpP s)
theorem escP_asc {x : Oc} (h : ascL x) : escP x = escT x := by unfold escP; rw [rp_asc h]
end Go.Mu
namespace Go.Mu
open Go Go.Proofs
def quoQ (s : Oc) : Oc := 34 :: (inP s ++ [34])
def keyQ (v : VaD) (i : Nat) : Oc := if v.kind = 6 ∧ i < v.keys.length then quoQ (v.keys.getD i []) ++ [58] else []
def itmQ (R : VaD → Oc) (v : VaD) (l : List VaD) (i : Nat) : Oc := (if 0 < i then [44] else []) ++ (keyQ v i ++ R (l.getD i va0))
def itmsQ (R : VaD → Oc) (v : VaD) (l : List VaD) : Oc := (List.range l.length).flatMap (itmQ R v l)
def litQ : Nat → VaD → Oc
 | 0, _ => []
 | d + 1, v => if v.kind = 0 then [110, 117, 108, 108] else if v.kind = 1 then [102, 97, 108, 115, 101] else if v.kind = 2 then [116, 114, 117, 101] else if v.kind = 3 then (if v.int < 0 then 32 :: printM v.int else printM v.int)
  else if v.kind = 5 then 91 :: (itmsQ (litQ d) v (vals v.list) ++ [93]) else if v.kind = 6 then 123 :: (itmsQ (litQ d) v (vals v.list) ++ [125]) else quoQ v.text
def endS : Nat → Bool → Oc → Nat
 | _, _, [] => 0
 | k, true, c :: t => (bif c == 34 then endS k false t else endS k true t) + 1
 | k, false, c :: t => bif k == 0 && (c == 44 || c == 93 || c == 125) then 0 else
  (bif c == 34 then endS k true t else bif c == 91 || c == 123 then endS (k + 1) false t else bif c == 93 || c == 125 then endS (k - 1) false t else endS k false t) + 1
def Adv (x : Oc) : Prop := ∀ k r, endS k false (x ++ r) = endS k false r + x.length
theorem adv_nil : Adv [] := fun k r => rfl
def mid (c : UInt8) : Bool := c != 34 && c != 91 && c != 93 && c != 123 && c != 125 && c != 44
theorem adv_mid {x : Oc} (h : ∀ c ∈ x, mid c = true) : Adv x := by
 induction x with
 | nil => exact adv_nil
 | cons c x ih =>
  intro k r
  have hc := h c (by simp)
  simp only [mid, Bool.and_eq_true, bne_iff_ne] at hc
  obtain ⟨⟨⟨⟨⟨h1, h2⟩, h3⟩, h4⟩, h5⟩, h6⟩ := hc
  have ih := ih (fun d hd => h d (by simp [hd])) k r
  rw [List.cons_append, endS, beq_false_of_ne h1, beq_false_of_ne h2, beq_false_of_ne h3, beq_false_of_ne h4, beq_false_of_ne h5, beq_false_of_ne h6]
  simp only [Bool.or_self, Bool.and_false, cond_false, ih, List.length_cons]
  omega
theorem str_run : ∀ (x : Oc) (k : Nat) (r : Oc), (34 : UInt8) ∉ x → endS k true (x ++ 34 :: r) = endS k false r + x.length + 1
 | [], k, r, _ => by simp [endS]
 | c :: x, k, r, h => by
  have hc : (c == 34) = false := beq_false_of_ne (fun e => h (by rw [e]; simp))
  have ih := str_run x k r (fun hx => h (by simp [hx]))
  rw [List.cons_append, endS, hc, cond_false, ih, List.length_cons]
  omega
theorem adv_quo (s : Oc) (h : (34 : UInt8) ∉ inP s) : Adv (quoQ s) := fun k r => by
 have e : quoQ s ++ r = 34 :: (inP s ++ 34 :: r) := by unfold quoQ; simp
 have hl : (quoQ s).length = (inP s).length + 2 := by unfold quoQ; simp
 rw [e, endS]
 simp only [show ((34 : UInt8) == 44 || (34 : UInt8) == 93 || (34 : UInt8) == 125) = false from rfl, Bool.and_false, cond_false, show ((34 : UInt8) == 34) = true from rfl, cond_true]
 rw [str_run _ _ _ h, hl]
 omega
def AdvIn (x : Oc) : Prop := ∀ k r, endS (k + 1) false (x ++ r) = endS (k + 1) false r + x.length
theorem adv_in {x : Oc} (h : Adv x) : AdvIn x := fun k r => h (k + 1) r
theorem advIn_app {x y : Oc} (hx : AdvIn x) (hy : AdvIn y) : AdvIn (x ++ y) := fun k r => by
 rw [List.append_assoc, hx k, hy k, List.length_append]; omega
theorem advIn_flat {α : Type} {f : α → Oc} : ∀ {l : List α}, (∀ a ∈ l, AdvIn (f a)) → AdvIn (l.flatMap f)
 | [], _ => fun k r => rfl
 | a :: l, h => by
  rw [List.flatMap_cons]
  exact advIn_app (h a (by simp)) (advIn_flat (fun b hb => h b (by simp [hb])))
theorem advIn_comma : AdvIn [44] := fun k r => by
 show endS (k + 1) false (44 :: r) = _
 rw [endS]
 have : ((k + 1 == 0) : Bool) = false := rfl
 rw [this]
 rfl
theorem adv_list {a b : UInt8} (ha : a = 91 ∨ a = 123) (hb : b = 93 ∨ b = 125) {x : Oc} (h : AdvIn x) : Adv (a :: (x ++ [b])) := fun k r => by
 have e : (a :: (x ++ [b])) ++ r = a :: (x ++ (b :: r)) := by simp
 have h1 : endS k false (a :: (x ++ (b :: r))) = endS (k + 1) false (x ++ (b :: r)) + 1 := by
  rw [endS]
  rcases ha with rfl | rfl <;> simp
 have h2 : endS (k + 1) false (b :: r) = endS k false r + 1 := by
  rw [endS]
  have : ((k + 1 == 0) : Bool) = false := rfl
  rw [this]
  rcases hb with rfl | rfl <;> simp
 rw [e, h1, h k, h2]
 simp only [List.length_cons, List.length_append, List.length_nil]
 omega
theorem in_34 (c : Int) (h : 0 < c ∧ c ≤ 1114111) : (34 : UInt8) ∉ inB c := by
 have h16 : ∀ m : Fin 16, (34 : UInt8) ≠ hxd m.val := by decide
 have hx : ∀ n : Int, (34 : UInt8) ∉ hexB n 4 := fun n hm => by
  unfold hexB at hm
  rw [if_neg (by decide)] at hm
  simp only [List.mem_cons, List.not_mem_nil, or_false] at hm
  rcases hm with hm | hm | hm | hm
  · exact h16 ⟨_, Nat.mod_lt _ (by decide)⟩ hm
  · exact h16 ⟨_, Nat.mod_lt _ (by decide)⟩ hm
  · exact h16 ⟨_, Nat.mod_lt _ (by decide)⟩ hm
  · exact h16 ⟨_, Nat.mod_lt _ (by decide)⟩ hm
 unfold inB
 split
 · rename_i hb
   obtain ⟨b, e, _, _, _, _⟩ := bare_ok c hb
   have h01 : 0 ≤ c ∧ c < 128 := by
    unfold bareM at hb
    by_cases h1 : c < 128
    · exact ⟨by omega, h1⟩
    · rw [dF h1] at hb; cases hb
   have key : ∀ m : Fin 128, bareM (m.val : Int) = true → byteOf [.int .u8 (IntKind.u8.wrap (m.val : Int))] ≠ 34 := by decide +kernel
   obtain ⟨m, rfl⟩ : ∃ m : Nat, c = m := ⟨c.toNat, by omega⟩
   have := key ⟨m, by omega⟩ hb
   intro hm
   rw [List.mem_singleton] at hm
   exact this hm.symm
 split
 · intro hm
   simp only [List.mem_append, List.mem_cons, List.not_mem_nil, or_false] at hm
   rcases hm with (((hm | hm) | hm) | (hm | hm)) | hm
   · cases hm
   · cases hm
   · exact hx _ hm
   · cases hm
   · cases hm
   · exact hx _ hm
 · intro hm
   simp only [List.mem_append, List.mem_cons, List.not_mem_nil, or_false] at hm
   rcases hm with (hm | hm) | hm
   · cases hm
   · cases hm
   · exact hx _ hm
theorem inP_34 (s : Oc) : (34 : UInt8) ∉ inP s := fun hm => by
 obtain ⟨c, hc, hm⟩ := List.mem_flatMap.1 (show (34 : UInt8) ∈ (chP s).flatMap inB from hm)
 have := chP_ok s c hc
 exact in_34 c ⟨this.1, this.2.1⟩ hm
theorem quo_adv (s : Oc) : Adv (quoQ s) := adv_quo s (inP_34 s)
theorem dig_mid : ∀ n : Fin 10, mid (UInt8.ofNat (48 + n.val)) = true := by decide
theorem digsF_mid : ∀ (f u : Nat) (t : Oc), (∀ c ∈ t, mid c = true) → ∀ c ∈ digsF f u t, mid c = true
 | 0, u, t, h => h
 | f + 1, u, t, h => by
  have h2 : ∀ c ∈ UInt8.ofNat (48 + u % 10) :: t, mid c = true := fun c hc => by
   rcases List.mem_cons.1 hc with rfl | hc
   · exact dig_mid ⟨u % 10, by omega⟩
   · exact h c hc
  rw [digsF]
  cases u / 10 == 0
  · exact digsF_mid f _ _ h2
  · exact h2
theorem print_mid (n : Int) : ∀ c ∈ printM n, mid c = true := by
 unfold printM
 have := digsF_mid 19 n.natAbs [] (by simp)
 cases decide (n < 0)
 · exact this
 · intro c hc
   rcases List.mem_cons.1 hc with rfl | hc
   · decide
   · exact this c hc
theorem lit_adv : ∀ (d : Nat) (v : VaD), Adv (litQ d v)
 | 0, v => adv_nil
 | d + 1, v => by
  have hi : AdvIn (itmsQ (litQ d) v (vals v.list)) := advIn_flat (fun i _ => by
   unfold itmQ keyQ
   refine advIn_app ?_ (advIn_app ?_ (adv_in (lit_adv d _)))
   · split
     · exact advIn_comma
     · exact adv_in adv_nil
   · split
     · exact advIn_app (adv_in (quo_adv _)) (adv_in (adv_mid (by simp [mid])))
     · exact adv_in adv_nil)
  unfold litQ
  repeat' split
  · exact adv_mid (by simp [mid])
  · exact adv_mid (by simp [mid])
  · exact adv_mid (by simp [mid])
  · exact adv_mid (fun c hc => by
     rcases List.mem_cons.1 hc with rfl | hc
     · decide
     · exact print_mid _ c hc)
  · exact adv_mid (print_mid _)
  · exact adv_list (.inl rfl) (.inl rfl) hi
  · exact adv_list (.inr rfl) (.inr rfl) hi
  · exact quo_adv _
def dlm (r : Oc) : Bool := match r with
 | [] => true
 | c :: _ => c == 44 || c == 93 || c == 125
theorem end_lit (d : Nat) (v : VaD) {r : Oc} (h : dlm r = true) : endS 0 false (litQ d v ++ r) = (litQ d v).length := by
 rw [lit_adv d v 0 r]
 have : endS 0 false r = 0 := by
  cases r with
  | nil => rfl
  | cons c r =>
   have h : (c == 44 || c == 93 || c == 125) = true := h
   rw [endS, h]; rfl
 omega
end Go.Mu
namespace Go.Mu
open Go Go.Proofs
theorem jdF_pieces : ∀ (l : List Int) (m : Nat), okCh l → (l.flatMap inB).length ≤ m → (jdF m (l.flatMap inB)).1 = l.map encX
 | [], m, _, _ => by cases m <;> rfl
 | c :: l, m, hk, hm => by
  have hc := hk c (by simp)
  have hk' : okCh l := fun x hx => hk x (by simp [hx])
  rw [List.flatMap_cons] at hm ⊢
  rw [List.length_append] at hm
  rw [List.map_cons]
  by_cases hb : bareM c = true
  · obtain ⟨b, e, h1, h2, h3, h4⟩ := bare_ok c hb
    have ei : inB c = [b] := by unfold inB; rw [if_pos hb, e]
    rw [ei] at hm ⊢
    simp only [List.length_singleton] at hm
    obtain ⟨m, rfl⟩ : ∃ j, m = j + 1 := ⟨m - 1, by omega⟩
    have i1 := jdF_pieces l m hk' (by omega)
    have ep : jdF (m + 1) ([b] ++ l.flatMap inB) = ([b] :: (jdF m (l.flatMap inB)).1, (jdF m (l.flatMap inB)).2.1, (jdF m (l.flatMap inB)).2.2 + 1) := by
     show jdF (m + 1) (b :: l.flatMap inB) = _
     rw [jdF, if_neg (by simp), if_neg (show ¬ (b :: l.flatMap inB).getD 0 0 = 92 from h1), if_neg (by show ¬ endC b = true; rw [h2]; simp)]
     rfl
    rw [ep, h3, i1]
  · by_cases h6 : c ≥ 65536
    · obtain ⟨a, b, c', d, e1, e2, _⟩ := unh4 (55296 + (c - 65536) / 1024) (by omega) (by omega)
      obtain ⟨a2, b2, c2, d2, f1, f2, _⟩ := unh4 (56320 + (c - 65536) % 1024) (by omega) (by omega)
      have ei : inB c = [92, 117, a, b, c', d, 92, 117, a2, b2, c2, d2] := by unfold inB; rw [if_neg hb, if_pos h6, e1, f1]; rfl
      rw [ei] at hm ⊢
      simp only [List.length_cons, List.length_nil] at hm
      obtain ⟨m, rfl⟩ : ∃ j, m = j + 1 := ⟨m - 1, by omega⟩
      have i1 := jdF_pieces l m hk' (by omega)
      have hj := jo_two _ _ a b c' d a2 b2 c2 d2 (l.flatMap inB) e2 f2 (by omega) (by omega)
      have ev : 65536 + (55296 + (c - 65536) / 1024 - 55296) * 1024 + (56320 + (c - 65536) % 1024) - 56320 = c := by omega
      rw [ev] at hj
      have ep : jdF (m + 1) ([92, 117, a, b, c', d, 92, 117, a2, b2, c2, d2] ++ l.flatMap inB) = (encX c :: (jdF m (l.flatMap inB)).1, (jdF m (l.flatMap inB)).2.1, (jdF m (l.flatMap inB)).2.2 + 12) := by
       show jdF (m + 1) (92 :: 117 :: a :: b :: c' :: d :: 92 :: 117 :: a2 :: b2 :: c2 :: d2 :: l.flatMap inB) = _
       rw [jdF, if_neg (by simp), if_pos (by rfl), hj]
       rfl
      rw [ep, i1]
    · obtain ⟨a, b, c', d, e1, e2, _⟩ := unh4 c (by omega) (by omega)
      have ei : inB c = [92, 117, a, b, c', d] := by unfold inB; rw [if_neg hb, if_neg h6, e1]; rfl
      rw [ei] at hm ⊢
      simp only [List.length_cons, List.length_nil] at hm
      obtain ⟨m, rfl⟩ : ∃ j, m = j + 1 := ⟨m - 1, by omega⟩
      have i1 := jdF_pieces l m hk' (by omega)
      have hj := jo_one c a b c' d (l.flatMap inB) e2 hc.2.2
      have ep : jdF (m + 1) ([92, 117, a, b, c', d] ++ l.flatMap inB) = (encX c :: (jdF m (l.flatMap inB)).1, (jdF m (l.flatMap inB)).2.1, (jdF m (l.flatMap inB)).2.2 + 6) := by
       show jdF (m + 1) (92 :: 117 :: a :: b :: c' :: d :: l.flatMap inB) = _
       rw [jdF, if_neg (by simp), if_pos (by rfl), hj]
       rfl
      rw [ep, i1]
def i34 (t : Oc) : Nat := (Lib.indexByte t 34).toNat
def inS (t : Oc) : Oc := t.take (i34 t)
def pcsS (t : Oc) : List Oc := (jdF (inS t).length (inS t)).1
theorem inT_34 {l : List Int} (h : okCh l) : (34 : UInt8) ∉ inT l := fun hm => by
 obtain ⟨c, hc, hm⟩ := List.mem_flatMap.1 (show (34 : UInt8) ∈ l.flatMap inB from hm)
 have := h c hc
 exact in_34 c ⟨this.1, this.2.1⟩ hm
theorem i34_of {x r : Oc} (h : (34 : UInt8) ∉ x) : i34 (x ++ 34 :: r) = x.length := by
 unfold i34
 rcases ib_split (x ++ 34 :: r) 34 with ⟨k1, k2⟩ | ⟨p2, q2, k1, k2, k3⟩
 · exact absurd (by simp) k2
 · have hp2 : p2 = x := by
    have := List.append_eq_append_iff.1 k1
    rcases this with ⟨a, b1, b2⟩ | ⟨a, b1, b2⟩
    · cases a with
      | nil => simpa using b1
      | cons c a =>
       exfalso
       have : c = 34 := by simp only [List.cons_append, List.cons.injEq] at b2; exact b2.1.symm
       subst this
       exact k2 (by rw [b1]; simp)
    · cases a with
      | nil => simpa using b1.symm
      | cons c a =>
       exfalso
       have : c = 34 := by simp only [List.cons_append, List.cons.injEq] at b2; exact b2.1.symm
       subst this
       exact h (by rw [b1]; simp)
   rw [k3, hp2]; simp
theorem pcsS_of {l : List Int} (h : okCh l) (r : Oc) : pcsS (inT l ++ 34 :: r) = l.map encX := by
 have e : inS (inT l ++ 34 :: r) = inT l := by unfold inS; rw [i34_of (inT_34 h), List.take_left']; rfl
 unfold pcsS
 rw [e]
 exact jdF_pieces l _ h (Nat.le_refl _)
theorem pln_all : ∀ n : Fin 128, plnM (n.val : Int) = bareM (n.val : Int) := by decide +kernel
theorem pln_bare {c : Int} (h0 : 0 ≤ c) : plnM c = bareM c := by
 by_cases h : c < 128
 · obtain ⟨m, rfl⟩ : ∃ m : Nat, c = m := ⟨c.toNat, by omega⟩
   exact pln_all ⟨m, by omega⟩
 · unfold plnM bareM
   rw [dF h]
   rfl
theorem hxd_low (d : Nat) (h : d < 16) : lowC (hxd d) = hxd d := by
 have key : ∀ m : Fin 16, lowC (hxd m.val) = hxd m.val := by decide +kernel
 exact key ⟨d, h⟩
theorem hexB_low (n : Int) : lowM (hexB n 4) = hexB n 4 := by
 unfold hexB lowM
 rw [if_neg (by decide)]
 simp only [List.map_cons, List.map_nil, hxd_low _ (Nat.mod_lt _ (by decide : 0 < 16))]
end Go.Mu
namespace Go.Mu
open Go Go.Proofs
theorem hp1_no {b c : UInt8} (h : b ≠ c) (r : Oc) : hpP [c] (b :: r) = false := by
 unfold hpP
 cases decide (((b :: r).length : Int) ≥ (([c] : Oc).length : Int))
 · rfl
 · show ([b] == [c]) = false
   simpa using h
theorem hp1_yes (c : UInt8) (r : Oc) : hpP [c] (c :: r) = true := by
 unfold hpP
 rw [dT (show ((c :: r).length : Int) ≥ (([c] : Oc).length : Int) by simp only [List.length_cons, List.length_nil]; omega)]
 show ([c] == [c]) = true
 simp
theorem hp2_no {b : UInt8} (h : b ≠ 92) (r : Oc) : hpP [92, 117] (b :: r) = false := by
 unfold hpP
 cases decide (((b :: r).length : Int) ≥ (([92, 117] : Oc).length : Int))
 · rfl
 · show (b :: r.take 1 == [92, 117]) = false
   have : (b == 92) = false := by simpa using h
   show (b == 92 && _) = false
   rw [this]; rfl
theorem hp2_yes (r : Oc) : hpP [92, 117] (92 :: 117 :: r) = true := by
 unfold hpP
 rw [dT (show ((92 :: 117 :: r).length : Int) ≥ (([92, 117] : Oc).length : Int) by simp only [List.length_cons, List.length_nil]; omega)]
 rfl
def KS (s : Oc) (a : Int) : Prop := 0 ≤ a ∧ s.length ≤ 67108864 ∧ ∃ l r, okCh l ∧ s.drop a.toNat = inT l ++ 34 :: r
def ES (s : Oc) (a : Int) : Int := a + ((i34 (s.drop a.toNat) + 1 : Nat) : Int)
def XS (s : Oc) (a : Int) (x : Bld) : Bld := (pcsS (s.drop a.toNat)).foldl (fun y p => y.add 4 6 p) x
noncomputable abbrev stTurn := lturn Tryz.prog (layStk0 plnM) (stkFH KS ES XS) 121 2 [0,3] [] [3] []
theorem noteB (s : Oc) (a : Int) (x : Bld) : noteless (List.drop 4 (hB4 s a x)) := fun t n h => by cases h
theorem stk_bare (s : Oc) (i : Nat) (b : UInt8) (r : Oc) (hd : s.drop i = b :: r) (h34 : b ≠ 34) (h92 : b ≠ 92) (hQ : plnM (b.toNat : Int) = true) (hl : s.length ≤ 67108864) (x : Bld) (hx : x.can 4 6) (ht : x.t.length ≤ 1073741000) (D : Dfs) (k : Kont) :
 stTurn (stL 105 [0,3] [.ptr (.hp 3) 0, .ptr (.hp 4) 0] [] [] (hB4 s (i : Nat) x) D) k = k .normal (stL 105 [0,3] [.ptr (.hp 3) 0, .ptr (.hp 4) 0] [] [] (hB4 s ((i + 1 : Nat) : Int) (x.add 4 6 [b])) D) := by
 have hi : i + 1 ≤ s.length := by
  have h1 := congrArg List.length hd
  rw [List.length_drop, List.length_cons] at h1
  omega
 have hg : s.getD i 0 = b := by
  have := congrArg (fun t : Oc => t.getD 0 0) hd
  simpa [List.getD_eq_getElem?_getD, List.getElem?_drop] using this
 have e1 : IntKind.i64.wrap (((i : Nat) : Int) + 1) = ((i + 1 : Nat) : Int) := wrap_add1 (by omega)
 have e8 : IntKind.i64.wrap ((b.toNat : Nat) : Int) = ((b.toNat : Nat) : Int) := wrap_of (by omega) (by have := b.toNat_lt; omega)
 have nb : noteless (List.drop 4 (hB4 s ((i : Nat) : Int) x)) := noteB _ _ _
 have eb : UInt8.ofNat (((b.toNat : Nat) : Int)).toNat = b := by rw [Int.toNat_natCast]; exact UInt8.ofNat_toNat
 refine (stk_step plnM KS ES XS s ((i : Nat) : Int) x D k ((i : Nat) : Int) rfl s rfl _ rfl _ rfl ((i : Nat) : Int) rfl s rfl _ rfl _ rfl i rfl _ rfl _ rfl _ rfl _ rfl _ rfl _ rfl _ rfl _ rfl _ rfl _ rfl _ rfl _ rfl _ rfl _ rfl _ rfl _ rfl _ rfl x.t rfl _ rfl _ rfl _ rfl _ rfl _ rfl _ rfl ((b.toNat : Nat) : Int) (by rw [hg]) b (by rw [eb]) _ rfl _ rfl).trans ?_
 refine cT (tst_true ⟨⟨by omega, by omega, by omega, by decide, nb⟩, .refl _, by first | rfl | trivial⟩) ?_
 rw [Int.toNat_natCast, hd, hp1_no h34, cond_false, dT (show ((i : Nat) : Int) < (s.length : Int) by omega)]
 simp only [Bool.not_true, cond_false]
 refine cT (tst_true ⟨⟨by omega, by omega, by omega, by decide, nb⟩, .refl _, by first | rfl | trivial⟩) ?_
 rw [hp2_no h92, cond_false, dT (show (0 : Int) ≤ ((i : Nat) : Int) by omega), e8, hQ, e1]
 simp only [Bool.and_self, Bool.not_true, cond_true, cond_false]
 refine cT (tst_true ⟨⟨hx, by omega⟩, .refl _, by first | rfl | trivial⟩) ?_
 rfl
theorem drop_add {s : Oc} {i : Nat} {x r : Oc} (h : s.drop i = x ++ r) : s.drop (i + x.length) = r := by
 rw [← List.drop_drop, h, List.drop_left]
theorem stk_unit (s : Oc) (i : Nat) (c : Int) (p q u v : UInt8) (r : Oc) (hd : s.drop i = 92 :: 117 :: p :: q :: u :: v :: r) (hu : unhexM [p, q, u, v] = (c, 0)) (hw : lowM [p, q, u, v] = [p, q, u, v]) (hb : bareM c = false) (hc : 0 < c ∧ c ≤ 65535) (hs : ¬ (55296 ≤ c ∧ c ≤ 57343))
 (hl : s.length ≤ 67108864) (x : Bld) (hx : x.can 4 6) (ht : x.t.length ≤ 1073741000) (D : Dfs) (k : Kont) :
 stTurn (stL 105 [0,3] [.ptr (.hp 3) 0, .ptr (.hp 4) 0] [] [] (hB4 s (i : Nat) x) D) k = k .normal (stL 105 [0,3] [.ptr (.hp 3) 0, .ptr (.hp 4) 0] [] [] (hB4 s ((i + 6 : Nat) : Int) (x.add 4 6 (encX c))) D) := by
 have hi : i + 6 ≤ s.length := by
  have h1 := congrArg List.length hd
  rw [List.length_drop] at h1
  simp only [List.length_cons] at h1
  omega
 have h4 : (s.drop (i + 2)).take 4 = [p, q, u, v] := by
  have e : s.drop (i + 2) = p :: q :: u :: v :: r := drop_add (x := [92, 117]) hd
  rw [e]; rfl
 have nb : ∀ a : Int, noteless (List.drop 4 (hB4 s a x)) := fun a => noteB _ _ _
 have hl28 : (encX c).length ≤ 4 := encX_len c
 have hp : plnM c = false := by rw [pln_bare (by omega), hb]
 refine (stk_step plnM KS ES XS s ((i : Nat) : Int) x D k ((i : Nat) : Int) rfl s rfl _ rfl _ rfl ((i : Nat) : Int) rfl s rfl _ rfl _ rfl i rfl ((i + 2 : Nat) : Int) rfl ((i + 6 : Nat) : Int) rfl s rfl _ rfl [p, q, u, v] h4.symm c (by rw [hu]) _ rfl _ rfl _ rfl _ rfl _ rfl _ rfl _ rfl _ rfl _ rfl _ rfl _ rfl x.t rfl _ rfl _ rfl _ rfl _ rfl _ rfl _ rfl _ rfl _ rfl _ rfl _ rfl).trans ?_
 refine cT (tst_true ⟨⟨by omega, by omega, by omega, by decide, nb _⟩, .refl _, by first | rfl | trivial⟩) ?_
 rw [Int.toNat_natCast, hd, hp1_no (by decide), cond_false, dT (show ((i : Nat) : Int) < (s.length : Int) by omega)]
 simp only [Bool.not_true, cond_false]
 refine cT (tst_true ⟨⟨by omega, by omega, by omega, by decide, nb _⟩, .refl _, by first | rfl | trivial⟩) ?_
 rw [hp2_yes, cond_true]
 refine cT (tst_true ⟨⟨by omega, by omega, by omega, by rw [hu], hw, nb ((i + 2 : Nat) : Int)⟩, .refl _, by first | rfl | trivial⟩) ?_
 have t1 : (bif bif !plnM c then decide (c > 0) else false then bif decide (c < 56320) then true else decide (c > 57343) else false) = true := by
  rw [hp, dT (show c > 0 by omega)]
  by_cases h : c < 56320
  · rw [dT h]; rfl
  · rw [dF h, dT (show c > 57343 by omega)]; rfl
 have t2 : (bif decide (c ≥ 55296) then decide (c < 56320) else false) = false := by
  by_cases h : c ≥ 55296
  · rw [dT h, dF (show ¬ c < 56320 by omega)]; rfl
  · rw [dF h]; rfl
 rw [t1, t2, dT (show 0 ≤ c ∧ c ≤ 2147483647 by omega)]
 simp only [Bool.not_true, cond_true, cond_false]
 refine cT (tst_true ⟨⟨hx, by omega⟩, .refl _, by first | rfl | trivial⟩) ?_
 rfl
theorem stk_pair (s : Oc) (i : Nat) (c n m : Int) (p q u v p2 q2 u2 v2 : UInt8) (r : Oc) (hd : s.drop i = 92 :: 117 :: p :: q :: u :: v :: 92 :: 117 :: p2 :: q2 :: u2 :: v2 :: r) (hu : unhexM [p, q, u, v] = (n, 0)) (hw : lowM [p, q, u, v] = [p, q, u, v]) (hu2 : unhexM [p2, q2, u2, v2] = (m, 0)) (hw2 : lowM [p2, q2, u2, v2] = [p2, q2, u2, v2])
 (hn : 55296 ≤ n ∧ n < 56320) (hm : 56320 ≤ m ∧ m ≤ 57343) (hc : c = 65536 + (n - 55296) * 1024 + (m - 56320))
 (hl : s.length ≤ 67108864) (x : Bld) (hx : x.can 4 6) (ht : x.t.length ≤ 1073741000) (D : Dfs) (k : Kont) :
 stTurn (stL 105 [0,3] [.ptr (.hp 3) 0, .ptr (.hp 4) 0] [] [] (hB4 s (i : Nat) x) D) k = k .normal (stL 105 [0,3] [.ptr (.hp 3) 0, .ptr (.hp 4) 0] [] [] (hB4 s ((i + 12 : Nat) : Int) (x.add 4 6 (encX c))) D) := by
 have hi : i + 12 ≤ s.length := by
  have h1 := congrArg List.length hd
  rw [List.length_drop] at h1
  simp only [List.length_cons] at h1
  omega
 have h4 : (s.drop (i + 2)).take 4 = [p, q, u, v] := by
  have e : s.drop (i + 2) = p :: q :: u :: v :: 92 :: 117 :: p2 :: q2 :: u2 :: v2 :: r := drop_add (x := [92, 117]) hd
  rw [e]; rfl
 have h6 : s.drop (i + 6) = 92 :: 117 :: p2 :: q2 :: u2 :: v2 :: r := drop_add (x := [92, 117, p, q, u, v]) hd
 have h8 : (s.drop (i + 8)).take 4 = [p2, q2, u2, v2] := by
  have e : s.drop (i + 8) = p2 :: q2 :: u2 :: v2 :: r := drop_add (x := [92, 117, p, q, u, v, 92, 117]) hd
  rw [e]; rfl
 have nb : ∀ a : Int, noteless (List.drop 4 (hB4 s a x)) := fun a => noteB _ _ _
 have hl28 : (encX c).length ≤ 4 := encX_len c
 have hp : plnM n = false := by unfold plnM; rw [dF (show ¬ n < 128 by omega)]; rfl
 have e25 : IntKind.i64.wrap (IntKind.i64.wrap (IntKind.i64.wrap (65536 + IntKind.i64.wrap (IntKind.i64.wrap (n - 55296) * 1024)) + m) - 56320) = c := by
  rw [wrap_of (n := n - 55296) (by omega) (by omega), wrap_of (n := (n - 55296) * 1024) (by omega) (by omega), wrap_of (n := 65536 + (n - 55296) * 1024) (by omega) (by omega), wrap_of (n := 65536 + (n - 55296) * 1024 + m) (by omega) (by omega), wrap_of (by omega) (by omega)]
  omega
 refine (stk_step plnM KS ES XS s ((i : Nat) : Int) x D k ((i : Nat) : Int) rfl s rfl _ rfl _ rfl ((i : Nat) : Int) rfl s rfl _ rfl _ rfl i rfl ((i + 2 : Nat) : Int) rfl ((i + 6 : Nat) : Int) rfl s rfl _ rfl [p, q, u, v] h4.symm n (by rw [hu]) _ rfl ((i + 6 : Nat) : Int) rfl s rfl _ rfl ((i + 8 : Nat) : Int) rfl ((i + 12 : Nat) : Int) rfl s rfl _ rfl [p2, q2, u2, v2] h8.symm m (by rw [hu2]) c e25.symm x.t rfl _ rfl (encX c) rfl _ rfl _ rfl _ rfl _ rfl _ rfl _ rfl _ rfl _ rfl).trans ?_
 refine cT (tst_true ⟨⟨by omega, by omega, by omega, by decide, nb _⟩, .refl _, by first | rfl | trivial⟩) ?_
 rw [Int.toNat_natCast, hd, hp1_no (by decide), cond_false, dT (show ((i : Nat) : Int) < (s.length : Int) by omega)]
 simp only [Bool.not_true, cond_false]
 refine cT (tst_true ⟨⟨by omega, by omega, by omega, by decide, nb _⟩, .refl _, by first | rfl | trivial⟩) ?_
 rw [hp2_yes, cond_true]
 refine cT (tst_true ⟨⟨by omega, by omega, by omega, by rw [hu], hw, nb ((i + 2 : Nat) : Int)⟩, .refl _, by first | rfl | trivial⟩) ?_
 have t1 : (bif bif !plnM n then decide (n > 0) else false then bif decide (n < 56320) then true else decide (n > 57343) else false) = true := by
  rw [hp, dT (show n > 0 by omega), dT hn.2]; rfl
 have t2 : (bif decide (n ≥ 55296) then decide (n < 56320) else false) = true := by
  rw [dT (show n ≥ 55296 from hn.1), dT hn.2]; rfl
 rw [t1, t2]
 simp only [Bool.not_true, cond_true, cond_false]
 refine cT (tst_true ⟨⟨by omega, by omega, by omega, by decide, nb ((i + 6 : Nat) : Int)⟩, .refl _, by first | rfl | trivial⟩) ?_
 rw [Int.toNat_natCast, h6, hp2_yes, cond_true]
 refine cT (tst_true ⟨⟨by omega, by omega, by omega, by rw [hu2], hw2, nb ((i + 8 : Nat) : Int)⟩, .refl _, by first | rfl | trivial⟩) ?_
 rw [dT (show m ≥ 56320 from hm.1), dT hm.2, dT (show 0 ≤ c ∧ c ≤ 2147483647 by omega)]
 simp only [Bool.not_true, cond_true, cond_false]
 refine cT (tst_true ⟨⟨hx, by omega⟩, .refl _, by first | rfl | trivial⟩) ?_
 rfl
theorem stk_rd (s : Oc) (i : Nat) (c : Int) (r : Oc) (hc : 0 < c ∧ c ≤ 1114111 ∧ ¬ (55296 ≤ c ∧ c ≤ 57343)) (hd : s.drop i = inB c ++ r) (hl : s.length ≤ 67108864) (x : Bld) (hx : x.can 4 6) (ht : x.t.length ≤ 1073741000) (D : Dfs) (k : Kont) :
 stTurn (stL 105 [0,3] [.ptr (.hp 3) 0, .ptr (.hp 4) 0] [] [] (hB4 s (i : Nat) x) D) k = k .normal (stL 105 [0,3] [.ptr (.hp 3) 0, .ptr (.hp 4) 0] [] [] (hB4 s ((i + (inB c).length : Nat) : Int) (x.add 4 6 (encX c))) D) := by
 by_cases hb : bareM c = true
 · obtain ⟨b, e, h1, h2, h3, h4⟩ := bare_ok c hb
   have ei : inB c = [b] := by unfold inB; rw [if_pos hb, e]
   have hlt : c < 128 := by
    unfold bareM at hb
    by_cases h1 : c < 128
    · exact h1
    · rw [dF h1] at hb; cases hb
   have key : ∀ m : Fin 128, bareM (m.val : Int) = true → byteOf [.int .u8 (IntKind.u8.wrap (m.val : Int))] ≠ 34 ∧ ((byteOf [.int .u8 (IntKind.u8.wrap (m.val : Int))]).toNat : Int) = (m.val : Int) := by decide +kernel
   obtain ⟨m, rfl⟩ : ∃ m : Nat, c = m := ⟨c.toNat, by omega⟩
   obtain ⟨k1, k2⟩ := key ⟨m, by omega⟩ hb
   simp only [e] at k1 k2
   rw [ei] at hd ⊢
   rw [h3]
   exact stk_bare s i b r hd k1 h1 (by rw [k2, pln_bare (by omega)]; exact hb) hl x hx ht D k
 · have hbf : bareM c = false := by simpa using hb
   by_cases h6 : c ≥ 65536
   · obtain ⟨a, b, c', d, e1, e2, _⟩ := unh4 (55296 + (c - 65536) / 1024) (by omega) (by omega)
     obtain ⟨a2, b2, c2, d2, f1, f2, _⟩ := unh4 (56320 + (c - 65536) % 1024) (by omega) (by omega)
     have ei : inB c = [92, 117, a, b, c', d, 92, 117, a2, b2, c2, d2] := by unfold inB; rw [if_neg hb, if_pos h6, e1, f1]; rfl
     have w1 := hexB_low (55296 + (c - 65536) / 1024)
     have w2 := hexB_low (56320 + (c - 65536) % 1024)
     rw [e1] at w1
     rw [f1] at w2
     rw [ei] at hd ⊢
     exact stk_pair s i c _ _ a b c' d a2 b2 c2 d2 r hd e2 w1 f2 w2 (by omega) (by omega) (by omega) hl x hx ht D k
   · obtain ⟨a, b, c', d, e1, e2, _⟩ := unh4 c (by omega) (by omega)
     have ei : inB c = [92, 117, a, b, c', d] := by unfold inB; rw [if_neg hb, if_neg h6, e1]; rfl
     have w1 := hexB_low c
     rw [e1] at w1
     rw [ei] at hd ⊢
     exact stk_unit s i c a b c' d r hd e2 w1 hbf (by omega) hc.2.2 hl x hx ht D k
def addsB (x : Bld) (l : List Oc) : Bld := l.foldl (fun y p => y.add 4 6 p) x
theorem addsB_can : ∀ (l : List Oc) {x : Bld}, x.can 4 6 → (addsB x l).can 4 6
 | [], x, h => h
 | p :: l, x, h => addsB_can l (Bld.add_can h p)
theorem addsB_t : ∀ (l : List Oc) (x : Bld), (addsB x l).t = x.t ++ l.flatten
 | [], x => by simp [addsB]
 | p :: l, x => by
  show (addsB (x.add 4 6 p) l).t = _
  rw [addsB_t l, Bld.add_t, List.flatten_cons, List.append_assoc]
theorem addsB_snoc (l : List Oc) (x : Bld) (p : Oc) : addsB x (l ++ [p]) = (addsB x l).add 4 6 p := by unfold addsB; rw [List.foldl_append]; rfl
theorem flat4 (l : List Int) : ((l.map encX).flatten).length ≤ 4 * l.length := by
 induction l with
 | nil => exact Nat.le_refl _
 | cons c l ih =>
  have := encX_len c
  rw [List.map_cons, List.flatten_cons, List.length_append, List.length_cons]
  omega
theorem inT_ge {l : List Int} : l.length ≤ (inT l).length := by
 induction l with
 | nil => exact Nat.le_refl _
 | cons c l ih =>
  have h1 : 1 ≤ (inB c).length := by
   unfold inB
   split
   · exact Nat.le_refl _
   split <;> simp
  have e : inT (c :: l) = inB c ++ inT l := by unfold inT; rw [List.flatMap_cons]
  rw [e, List.length_append, List.length_cons]
  omega
theorem inT_take (l : List Int) (j : Nat) (h : j < l.length) : inT (l.take (j + 1)) = inT (l.take j) ++ inB (l.getD j 0) := by
 unfold inT
 rw [List.take_succ_eq_append_getElem h, List.flatMap_append, List.getD_eq_getElem?_getD, List.getElem?_eq_getElem h]
 simp
theorem inT_drop (l : List Int) (j : Nat) (h : j < l.length) : inT (l.drop j) = inB (l.getD j 0) ++ inT (l.drop (j + 1)) := by
 unfold inT
 rw [List.drop_eq_getElem_cons h, List.flatMap_cons, List.getD_eq_getElem?_getD, List.getElem?_eq_getElem h]
 rfl
theorem stkSp_ok : SpOK stTurn 105 [0,3] [] [3] [] (stkSp KS ES XS) := mkL_ok fun y h => by
 obtain ⟨s, a, x⟩ := y
 obtain ⟨⟨h0, hl, l, r, hk, hd⟩, hx, ht⟩ := h
 simp only at h0 hl hd hx ht
 obtain ⟨i, rfl⟩ : ∃ i : Nat, a = i := ⟨a.toNat, by omega⟩
 rw [Int.toNat_natCast] at hd
 refine ⟨_, _, _, _, fun k => rfl, ?_⟩
 have hX : XS s (i : Nat) x = addsB x (l.map encX) := by unfold XS; rw [Int.toNat_natCast, hd, pcsS_of hk]; rfl
 have hE : ES s (i : Nat) = ((i + (inT l).length + 1 : Nat) : Int) := by unfold ES; rw [Int.toNat_natCast, hd, i34_of (inT_34 hk)]; omega
 have hlen : i + (inT l).length + 1 ≤ s.length := by
  have h1 := congrArg List.length hd
  rw [List.length_drop, List.length_append, List.length_cons] at h1
  omega
 have hll := inT_ge (l := l)
 have hpos : ∀ j, j ≤ l.length → s.drop (i + (inT (l.take j)).length) = inT (l.drop j) ++ 34 :: r := fun j hj => by
  have e : inT l = inT (l.take j) ++ inT (l.drop j) := by unfold inT; rw [← List.flatMap_append, List.take_append_drop]
  refine drop_add (x := inT (l.take j)) (r := inT (l.drop j) ++ 34 :: r) ?_
  rw [hd, e, List.append_assoc]
 have hcan : ∀ j, (addsB x ((l.take j).map encX)).can 4 6 := fun j => addsB_can _ hx
 have htl : ∀ j, (addsB x ((l.take j).map encX)).t.length ≤ 1073741000 := fun j => by
  have := flat4 (l.take j)
  have h3 : (l.take j).length ≤ l.length := by rw [List.length_take]; omega
  rw [addsB_t, List.length_append, ht]
  omega
 simp only
 rw [hX, hE]
 have key := seq_runs (turn := stTurn) (n := 105) (l := [0,3]) (m := []) (lx := [3]) (mx := []) (fun j => [.ptr (.hp 3) 0, .ptr (.hp 4) 0]) (fun _ => []) (fun j => hB4 s ((i + (inT (l.take j)).length : Nat) : Int) (addsB x ((l.take j).map encX))) l.length (e := .exit 0) (by simp)
  (fun j hj D k => by
   have hc := hk (l.getD j 0) (by rw [List.getD_eq_getElem?_getD, List.getElem?_eq_getElem hj]; exact List.getElem_mem hj)
   have hdj := hpos j (by omega)
   rw [inT_drop l j hj, List.append_assoc] at hdj
   refine (stk_rd s _ (l.getD j 0) _ hc hdj hl _ (hcan j) (htl j) D k).trans ?_
   have e1 : (l.take (j + 1)).map encX = (l.take j).map encX ++ [encX (l.getD j 0)] := by
    rw [List.take_succ_eq_append_getElem hj, List.map_append, List.getD_eq_getElem?_getD, List.getElem?_eq_getElem hj]; rfl
   rw [inT_take l j hj, e1, addsB_snoc, List.length_append, Nat.add_assoc])
  (fun D k => by
   have hdj := hpos l.length (Nat.le_refl _)
   rw [List.drop_length] at hdj
   have nb : ∀ a : Int, noteless (List.drop 4 (hB4 s a (addsB x ((l.take l.length).map encX)))) := fun a => noteB _ _ _
   have hle : i + (inT (l.take l.length)).length + 1 ≤ s.length := by rw [List.take_length]; exact hlen
   refine (stk_step plnM KS ES XS s ((i + (inT (l.take l.length)).length : Nat) : Int) (addsB x ((l.take l.length).map encX)) D k ((i + (inT (l.take l.length)).length : Nat) : Int) rfl s rfl _ rfl _ rfl _ rfl _ rfl _ rfl _ rfl _ rfl _ rfl _ rfl _ rfl _ rfl _ rfl _ rfl _ rfl _ rfl _ rfl _ rfl _ rfl _ rfl _ rfl _ rfl _ rfl _ rfl _ rfl _ rfl _ rfl _ rfl _ rfl _ rfl _ rfl _ rfl _ rfl _ rfl _ rfl _ rfl).trans ?_
   refine cT (tst_true ⟨⟨by omega, by omega, by omega, by decide, nb _⟩, .refl _, by first | rfl | trivial⟩) ?_
   rw [Int.toNat_natCast, hdj]
   have hq : hpP [34] (inT [] ++ 34 :: r) = true := hp1_yes 34 r
   rw [hq, cond_true])
 rw [List.take_length] at key
 exact key
theorem layStk0_ok : (layStk0 plnM).OK Tryz.prog := b4_ok ((((Lay.nil_ok.addF tkTold_ok).addF hfTold_ok).addF plnTold_ok).addF (mkFS_ok fun ys xs e h => by
 obtain ⟨n, rfl⟩ : ∃ n, xs = [.int .i64 n] := ⟨_, e⟩
 have h2 : 0 ≤ n ∧ n ≤ 2147483647 := of_decide_eq_true h
 obtain ⟨e4, e5⟩ := enc_exact h2.1 h2.2
 obtain ⟨o, h3, h4⟩ := encTold_ok [.int .i64 n] [] some (.ret (.tuple [.str (encS' n), .int .i64 (encE n)]) []) rfl
 have : o = .ret (.tuple [.str (encS' n), .int .i64 (encE n)]) [] := by simpa using h4
 subst this
 rw [e4, e5] at h3
 exact ⟨_, fun k => rfl, h3⟩))
end Go.Mu
namespace Go.Mu
open Go Go.Proofs
def canK (x : AVal) : AVal := encSs (fullOf x) (decL decS x)
noncomputable def riTold (Wk : AVal → Prop) (R : AVal → Bool) : FSp := mkF (fun xs H => xs.getD 0 .undef) Wk (fun x => [canK x]) (fun _ => []) (fun x k => k (.ret (.bool (R x)) []))
noncomputable def riSp (Wk : AVal → Prop) (R : AVal → Bool) : LSp := mkL (fun vs bs H => vs.getD 0 .undef) Wk (fun x => [canK x, .int .i64 0]) (fun _ => []) (fun _ => []) (fun x k => cond (R x) (k (.exit 0) [.undef] [] []) (k .ret [.bool false] [] []))
noncomputable def riFH (Wk : AVal → Prop) (R : AVal → Bool) : FH := .of [(2, loopSpec 32 [0,3] [] [2] [] (riSp Wk R))]
noncomputable def layRi0 : Lay := Lay.nil.addF 111 rNameTold
theorem ri_step (Wk : AVal → Prop) (R : AVal → Bool) (f : Bool) (ks : List Oc) (i : Int) (D : Dfs) (k : Kont) : lturn Tryz.prog layRi0 (riFH Wk R) 95 2 [0,3] [] [2] [] (stL 32 [0,3] [encSs f ks, .int .i64 i] [] [] [] D) k = (
 let n0 : Int := (↑ks.length : Int);
 let c1 : Bool := decide (i < n0);
 let c2 : Bool := decide (0 ≤ i) && c1;
 let l3 : Oc := ks.getD i.toNat [];
 let c4 : Bool := !nameB l3;
 let c5 : Bool := decide (i > 0);
 let c6 : Bool := !(!c4 && c5);
 let n7 : Int := IntKind.i64.wrap (i - 1);
 let l8 : Oc := ks.getD n7.toNat [];
  bif c1 then bif c2 then bif decide (l3.length ≤ 4611686018427387903) then bif c2 || c6 then bif decide (0 ≤ n7) && decide (n7 < n0) || c6 then bif bif c4 then true else bif c5 then Op.bytesLess l3 l8 || l3 == l8 else false then k AExit.ret (stL 32 [2] [AVal.bool false] [] [] [] D) else k AExit.normal (stL 32 [0, 3] [AVal.list f ks.length fun i => [AVal.str (ks.getD i [])], AVal.int .i64 (IntKind.i64.wrap (i + 1))] [] [] [] D) else none else none else none else none else k (AExit.exit 0) (stL 32 [2] [AVal.undef] [] [] [] D)) := by kernel_rfl
noncomputable def layRi (Wk : AVal → Prop) (R : AVal → Bool) : Lay := layRi0.addL 95 (riFH Wk R)
theorem ri_fun (Wk : AVal → Prop) (R : AVal → Bool) (f : Bool) (ks : List Oc) (k : Out → Ans) : iFun Tryz.prog ((layRi Wk R).hd Tryz.prog) (layRi Wk R).fhs 0 95 [encSs f ks] [] k = (
 bif tst (Wk (AVal.list f ks.length fun i => [AVal.str (ks.getD i [])]) ∧ SubTL [AVal.list f ks.length fun i => [AVal.str (ks.getD i [])], AVal.int .i64 0] [canK (AVal.list f ks.length fun i => [AVal.str (ks.getD i [])]), AVal.int .i64 0] ∧ ([] : List (List AVal)) = [] ∧ ([] : Heap) = []) then bif R (AVal.list f ks.length fun i => [AVal.str (ks.getD i [])]) then k (Out.ret (AVal.bool true) []) else k (Out.ret (AVal.bool false) []) else none) := by kernel_rfl
noncomputable def ccSp (V : Int → List AVal → Prop) (L : List AVal → Int → Bool) (E : List AVal → Int → Int) : LSp := mkL (fun vs bs H => (aI vs 0, bs.getD 0 [])) (fun a => V a.1 a.2) (fun a => [.int .i64 a.1, .ptr (.tmp 2) 0, .int .i64 0]) (fun a => [a.2]) (fun _ => [])
 (fun a k => cond (L a.2 a.1) (k .ret [.int .i64 (E a.2 a.1)] [] []) (k (.exit 0) [.undef] [] []))
noncomputable def ccFH (V : Int → List AVal → Prop) (L : List AVal → Int → Bool) (E : List AVal → Int → Int) : FH := .of [(14, loopSpec 128 [1,2,7] [2] [4] [] (ccSp V L E))]
noncomputable def layCc0 (W : List AVal → Prop) (C : NsT) (Wk : AVal → Prop) (R : AVal → Bool) : Lay := (Lay.nil.addF 63 (nsTold W C)).addF 95 (riTold Wk R)
theorem cc_step (W : List AVal → Prop) (C : NsT) (Wk : AVal → Prop) (R : AVal → Bool) (V : Int → List AVal → Prop) (L : List AVal → Int → Bool) (E : List AVal → Int → Int) (kd n : Int) (t : Oc) (f : Bool) (q : Nat) (g : Nat → VaD) (kf : Bool) (ks : List Oc) (c i : Int) (D : Dfs) (k : Kont) : lturn Tryz.prog (layCc0 W C Wk R) (ccFH V L E) 63 14 [1,2,7] [2] [4] [] (stL 128 [1,2,7] [.int .i64 c, .ptr (.tmp 2) 0, .int .i64 i] [2] [encVa ⟨kd, n, t, f, q, fun i => encVa (g i), kf, ks⟩] [] D) k = (
 let c0 : Bool := decide (i < (↑q : Int));
 let n1 : Int := IntKind.i64.wrap (c + 1);
 let n2 : Int := C (cellsA (AVal.agg [AVal.int .i64 (g i.toNat).kind, AVal.int .i64 (g i.toNat).int, AVal.str (g i.toNat).text, AVal.list (g i.toNat).lf (g i.toNat).ln (g i.toNat).lr, AVal.list (g i.toNat).kf (g i.toNat).keys.length fun (i_1 : Nat) => [AVal.str ((g i.toNat).keys.getD i_1 [])]])) n1;
  bif c0 then bif decide (0 ≤ i) && c0 then bif tst ((W (cellsA (AVal.agg [AVal.int .i64 (g i.toNat).kind, AVal.int .i64 (g i.toNat).int, AVal.str (g i.toNat).text, AVal.list (g i.toNat).lf (g i.toNat).ln (g i.toNat).lr, AVal.list (g i.toNat).kf (g i.toNat).keys.length fun (i_1 : Nat) => [AVal.str ((g i.toNat).keys.getD i_1 [])]])) ∧ 0 ≤ n1 ∧ n1 ≤ 16) ∧ SubL [AVal.agg [AVal.int .i64 (g i.toNat).kind, AVal.int .i64 (g i.toNat).int, AVal.str (g i.toNat).text, AVal.list (g i.toNat).lf (g i.toNat).ln (g i.toNat).lr, AVal.list (g i.toNat).kf (g i.toNat).keys.length fun (i_1 : Nat) => [AVal.str ((g i.toNat).keys.getD i_1 [])]], AVal.int .i64 n1] [AVal.agg (cellsA (AVal.agg [AVal.int .i64 (g i.toNat).kind, AVal.int .i64 (g i.toNat).int, AVal.str (g i.toNat).text, AVal.list (g i.toNat).lf (g i.toNat).ln (g i.toNat).lr, AVal.list (g i.toNat).kf (g i.toNat).keys.length fun (i_1 : Nat) => [AVal.str ((g i.toNat).keys.getD i_1 [])]])), AVal.int .i64 n1] ∧ ([] : Heap) = []) then bif n2 != 0 then k AExit.ret (stL 128 [4] [AVal.int .i64 n2] [] [] [] D) else k AExit.normal (stL 128 [1, 2, 7] [AVal.int .i64 c, AVal.ptr (Oid.tmp 2) 0, AVal.int .i64 (IntKind.i64.wrap (i + 1))] [2] [[AVal.int .i64 kd, AVal.int .i64 n, AVal.str t, AVal.list f q fun (i : Nat) => encVa (g i), AVal.list kf ks.length fun i => [AVal.str (ks.getD i [])]]] [] D) else none else none else k (AExit.exit 0) (stL 128 [4] [AVal.undef] [] [] [] D)) := by kernel_rfl
noncomputable def layCc (W : List AVal → Prop) (C : NsT) (Wk : AVal → Prop) (R : AVal → Bool) (V : Int → List AVal → Prop) (L : List AVal → Int → Bool) (E : List AVal → Int → Int) : Lay := (layCc0 W C Wk R).addL 63 (ccFH V L E)
theorem cc_fun (W : List AVal → Prop) (C : NsT) (Wk : AVal → Prop) (R : AVal → Bool) (V : Int → List AVal → Prop) (L : List AVal → Int → Bool) (E : List AVal → Int → Int) (v : VaD) (c : Int) (k : Out → Ans) : iFun Tryz.prog ((layCc W C Wk R V L E).hd Tryz.prog) (layCc W C Wk R V L E).fhs 0 63 [.agg (encVa v), .int .i64 c] [] k = (
 let c0 : Bool := v.kind == 6;
 let c1 : Bool := bif v.kind == 5 then true else c0;
 let n2 : Int := (↑v.ln : Int);
 let m3 : Nat := v.keys.length;
 let n4 : Int := (↑m3 : Int);
 let z0 := [AVal.int .i64 c, AVal.ptr (Oid.tmp 2) 0, AVal.int .i64 0];
  bif bif c1 then c == 16 else false then k (Out.ret (AVal.int .i64 42) []) else bif decide ((↑v.text.length : Int) > 4096) then k (Out.ret (AVal.int .i64 5) []) else bif bif decide (n2 > 1024) then true else decide (n4 > 1024) then k (Out.ret (AVal.int .i64 3) []) else bif bif bif bif bif bif decide (v.kind < 0) then true else decide (v.kind > 11) then true else bif v.kind != 3 then v.int != 0 else false then true else bif !bif v.kind == 4 then true else decide (v.kind ≥ 7) then !v.text == [] else false then true else bif !c1 then decide (n2 > 0) else false then true else bif v.kind != 6 then decide (n4 > 0) else false then k (Out.ret (AVal.int .i64 9) []) else bif tst (Wk (AVal.list v.kf m3 fun i => [AVal.str (v.keys.getD i [])]) ∧ SubL [AVal.list v.kf m3 fun i => [AVal.str (v.keys.getD i [])]] [canK (AVal.list v.kf m3 fun i => [AVal.str (v.keys.getD i [])])] ∧ ([] : Heap) = []) then bif bif c0 then bif n4 != n2 then true else !R (AVal.list v.kf m3 fun i => [AVal.str (v.keys.getD i [])]) else false then k (Out.ret (AVal.int .i64 9) []) else bif tst (V c [AVal.int .i64 v.kind, AVal.int .i64 v.int, AVal.str v.text, AVal.list v.lf v.ln v.lr, AVal.list v.kf m3 fun i => [AVal.str (v.keys.getD i [])]] ∧ SubTL z0 z0 ∧ [[AVal.int .i64 v.kind, AVal.int .i64 v.int, AVal.str v.text, AVal.list v.lf v.ln v.lr, AVal.list v.kf m3 fun i => [AVal.str (v.keys.getD i [])]]] = [[AVal.int .i64 v.kind, AVal.int .i64 v.int, AVal.str v.text, AVal.list v.lf v.ln v.lr, AVal.list v.kf m3 fun i => [AVal.str (v.keys.getD i [])]]] ∧ ([] : Heap) = []) then bif L [AVal.int .i64 v.kind, AVal.int .i64 v.int, AVal.str v.text, AVal.list v.lf v.ln v.lr, AVal.list v.kf m3 fun i => [AVal.str (v.keys.getD i [])]] c then k (Out.ret (AVal.int .i64 (E [AVal.int .i64 v.kind, AVal.int .i64 v.int, AVal.str v.text, AVal.list v.lf v.ln v.lr, AVal.list v.kf m3 fun i => [AVal.str (v.keys.getD i [])]] c)) []) else k (Out.ret (AVal.int .i64 0) []) else none else none) := by kernel_rfl
noncomputable def layC4 (W : List AVal → Prop) (C : NsT) : Lay := Lay.nil.addF 63 (nsTold W C)
theorem chk4_fun (W : List AVal → Prop) (C : NsT) (v : VaD) (k : Out → Ans) : iFun Tryz.prog ((layC4 W C).hd Tryz.prog) (layC4 W C).fhs 0 31 [.agg (encVa v)] [] k = (
 bif tst ((W (cellsA (AVal.agg [AVal.int .i64 v.kind, AVal.int .i64 v.int, AVal.str v.text, AVal.list v.lf v.ln v.lr, AVal.list v.kf v.keys.length fun i => [AVal.str (v.keys.getD i [])]])) ∧ (0 : Int) ≤ 0 ∧ (0 : Int) ≤ 16) ∧ SubL [AVal.agg [AVal.int .i64 v.kind, AVal.int .i64 v.int, AVal.str v.text, AVal.list v.lf v.ln v.lr, AVal.list v.kf v.keys.length fun i => [AVal.str (v.keys.getD i [])]], AVal.int .i64 0] [AVal.agg (cellsA (AVal.agg [AVal.int .i64 v.kind, AVal.int .i64 v.int, AVal.str v.text, AVal.list v.lf v.ln v.lr, AVal.list v.kf v.keys.length fun i => [AVal.str (v.keys.getD i [])]])), AVal.int .i64 0] ∧ ([] : Heap) = []) then k (Out.ret (AVal.int .i64 (C (cellsA (AVal.agg [AVal.int .i64 v.kind, AVal.int .i64 v.int, AVal.str v.text, AVal.list v.lf v.ln v.lr, AVal.list v.kf v.keys.length fun i => [AVal.str (v.keys.getD i [])]])) 0)) []) else none) := by kernel_rfl
end Go.Mu
namespace Go.Mu
open Go Go.Proofs
abbrev RK := Oc → Int → Prop
abbrev RE := Oc → Int → Int
noncomputable def rstTold (K : RK) (T : Oc → Int → Oc) (E : RE) : FSp := mkF (fun xs H => HfA.mk (rS H) (rA H) (H.drop 4)) (fun x => K x.s x.a ∧ noteless x.G) (fun x => [.ptr (.hp 3) 0]) (fun x => heap4 x.s x.a ++ x.G)
 (fun x k => k (.ret (.str (T x.s x.a)) (heap4 x.s (E x.s x.a) ++ x.G)))
structure VlA where
 s : Oc
 a : Int
 l : Int
 G : Heap
noncomputable def rvlTold (K : Oc → Int → Int → Prop) (V : Oc → Int → Int → VaD) (E : RE) : FSp := mkF (fun xs H => VlA.mk (rS H) (rA H) (aI xs 1) (H.drop 4)) (fun x => K x.s x.a x.l ∧ noteless x.G) (fun x => [.ptr (.hp 3) 0, .int .i64 x.l]) (fun x => heap4 x.s x.a ++ x.G)
 (fun x k => k (.ret (.agg (encVa (V x.s x.a x.l))) (heap4 x.s (E x.s x.a) ++ x.G)))
noncomputable def layIt0 (K : RK) (T : Oc → Int → Oc) (E : RE) (KV : Oc → Int → Int → Prop) (V : Oc → Int → Int → VaD) (EV : RE) : Lay := ((Lay.nil.addF 120 tkTold).addF 121 (rstTold K T E)).addF 102 (rvlTold KV V EV)
structure ItA where
 s : Oc
 a : Int
 e : Oc
 l : Int
 kd : Int
structure ItR where
 n : Nat
 v : Nat
 u : Nat
 rows : List (List AVal)
 krows : List (List AVal)
 at_ : Int
noncomputable def itmSp (K : ItA → Prop) (R : ItA → ItR) : LSp := mkL (fun vs bs H => ItA.mk (rS H) (rA H) (aS vs 1) (aI vs 2) (intOf ((bs.getD 0 []).getD 0 .undef))) (fun x => K x) (fun x => [.ptr (.hp 3) 0, .str x.e, .int .i64 x.l, .ptr (.tmp 5) 0, .ptr (.tmp 8) 0]) (fun x => [[.int .i64 x.kd, .int .i64 0, .str [], nilList, nilList], vz0]) (fun x => heap4 x.s x.a)
 (fun x k => cond (x.kd == 6) (k .ret [.ptr (.tmp 8) 0] [[.int .i64 6, .int .i64 0, .str [], .own 5 0 (R x).n (R x).v false, .own 4 0 (R x).n (R x).u false]] (heap4 x.s (R x).at_ ++ [.arr 1 (R x).krows (R x).u, .arr 5 (R x).rows (R x).v]))
  (k .ret [.ptr (.tmp 8) 0] [[.int .i64 5, .int .i64 0, .str [], .own 4 0 (R x).n (R x).v false, nilList]] (heap4 x.s (R x).at_ ++ [.arr 5 (R x).rows (R x).v])))
noncomputable def itmFH (K : ItA → Prop) (R : ItA → ItR) : FH := .of [(4, loopSpec 48 [0,2,3,5,8] [5,8] [8] [8] (itmSp K R))]
abbrev itS (e : Oc) (l : Int) (cs : List AVal) (H : Heap) (D : Dfs) : St := stL 48 [0,2,3,5,8] [.ptr (.hp 3) 0, .str e, .int .i64 l, .ptr (.tmp 5) 0, .ptr (.tmp 8) 0] [5,8] [cs, vz0] H D
noncomputable abbrev itT (K : RK) (T : Oc → Int → Oc) (E : RE) (KV : Oc → Int → Int → Prop) (V : Oc → Int → Int → VaD) (EV : RE) (fh : FH) := lturn Tryz.prog (layIt0 K T E KV V EV) fh 122 4 [0,2,3,5,8] [5,8] [8] [8]
theorem it_a5 (KI : ItA → Prop) (RI : ItA → ItR) (K : RK) (T : Oc → Int → Oc) (E : RE) (KV : Oc → Int → Int → Prop) (V : Oc → Int → Int → VaD) (EV : RE) (e s : Oc) (a l : Int) (D : Dfs) (k : Kont) : lturn Tryz.prog (layIt0 K T E KV V EV) (itmFH KI RI) 122 4 [0,2,3,5,8] [5,8] [8] [8] (itS e l [.int .i64 5, .int .i64 0, .str [], nilList, nilList] (heap4 s a) D) k = (
 let n0 : Int := IntKind.i64.wrap (l - 1);
 let z0 := V (rS (heap4 s a)) (rA (heap4 s a)) n0;
 let z1 := V (rS (heap4 s a)) (rA (heap4 s a)) (IntKind.i64.wrap (l - 1));
 let z2 := [AVal.str (rS (heap4 s a)), AVal.int .i64 (EV (rS (heap4 s a)) (rA (heap4 s a)))];
 let n1 : Int := rA [Obj.var vz0, Obj.var [AVal.int .i64 0], Obj.var [AVal.int .i64 0], Obj.var z2, Obj.arr 5 [[AVal.int .i64 z0.kind, AVal.int .i64 z0.int, AVal.str z0.text, AVal.list z0.lf z0.ln z0.lr, AVal.list z0.kf z0.keys.length fun i => [AVal.str (z1.keys.getD i [])]]] 0];
 let l2 : Oc := rS [Obj.var vz0, Obj.var [AVal.int .i64 0], Obj.var [AVal.int .i64 0], Obj.var z2, Obj.arr 5 [[AVal.int .i64 z0.kind, AVal.int .i64 z0.int, AVal.str z0.text, AVal.list z0.lf z0.ln z0.lr, AVal.list z0.kf z0.keys.length fun i => [AVal.str (z1.keys.getD i [])]]] 0];
 let m3 : Nat := l2.length;
 let z3 := [AVal.str l2, AVal.int .i64 n1];
 let n4 : Int := rA [Obj.var vz0, Obj.var [AVal.int .i64 0], Obj.var [AVal.int .i64 0], Obj.var z3, Obj.arr 5 [[AVal.int .i64 z0.kind, AVal.int .i64 z0.int, AVal.str z0.text, AVal.list z0.lf z0.ln z0.lr, AVal.list z0.kf z0.keys.length fun i => [AVal.str (z1.keys.getD i [])]]] 0];
 let l5 : Oc := rS [Obj.var vz0, Obj.var [AVal.int .i64 0], Obj.var [AVal.int .i64 0], Obj.var z3, Obj.arr 5 [[AVal.int .i64 z0.kind, AVal.int .i64 z0.int, AVal.str z0.text, AVal.list z0.lf z0.ln z0.lr, AVal.list z0.kf z0.keys.length fun i => [AVal.str (z1.keys.getD i [])]]] 0];
 let m6 : Nat := l5.length;
 let z4 := [AVal.ptr (Oid.hp 3) 0, AVal.int .i64 n0];
  bif tst ((KV (rS (heap4 s a)) (rA (heap4 s a)) n0 ∧ noteless (List.drop 4 (heap4 s a))) ∧ SubL z4 z4 ∧ heap4 s a = [Obj.var vz0, Obj.var [AVal.int .i64 0], Obj.var [AVal.int .i64 0], Obj.var [AVal.str (rS (heap4 s a)), AVal.int .i64 (rA (heap4 s a))]]) then bif tst ((0 ≤ n1 ∧ n1 ≤ (↑m3 : Int) ∧ m3 ≤ 1099511627776 ∧ e.length ≤ 100 ∧ noteless (List.drop 4 [Obj.var vz0, Obj.var [AVal.int .i64 0], Obj.var [AVal.int .i64 0], Obj.var z2, Obj.arr 5 [[AVal.int .i64 z0.kind, AVal.int .i64 z0.int, AVal.str z0.text, AVal.list z0.lf z0.ln z0.lr, AVal.list z0.kf z0.keys.length fun i => [AVal.str (z1.keys.getD i [])]]] 0])) ∧ SubL [AVal.ptr (Oid.hp 3) 0, AVal.str e] [AVal.ptr (Oid.hp 3) 0, AVal.str e] ∧ [Obj.var vz0, Obj.var [AVal.int .i64 0], Obj.var [AVal.int .i64 0], Obj.var z2, Obj.arr 5 [[AVal.int .i64 z0.kind, AVal.int .i64 z0.int, AVal.str z0.text, AVal.list z0.lf z0.ln z0.lr, AVal.list z0.kf z0.keys.length fun i => [AVal.str (z1.keys.getD i [])]]] 0] = [Obj.var vz0, Obj.var [AVal.int .i64 0], Obj.var [AVal.int .i64 0], Obj.var z3, Obj.arr 5 [[AVal.int .i64 z0.kind, AVal.int .i64 z0.int, AVal.str z0.text, AVal.list z0.lf z0.ln z0.lr, AVal.list z0.kf z0.keys.length fun i => [AVal.str (z1.keys.getD i [])]]] 0]) then bif hpP e (List.drop n1.toNat l2) then k AExit.ret (stL 48 [8] [AVal.ptr (Oid.tmp 8) 0] [8] [[AVal.int .i64 5, AVal.int .i64 0, AVal.str [], AVal.own 4 0 (0 + 1) 0 false, AVal.list true 0 fun (x : Nat) => []]] [Obj.var vz0, Obj.var [AVal.int .i64 0], Obj.var [AVal.int .i64 0], Obj.var [AVal.str l2, AVal.int .i64 (n1 + (↑e.length : Int))], Obj.arr 5 [[AVal.int .i64 z0.kind, AVal.int .i64 z0.int, AVal.str z0.text, AVal.list z0.lf z0.ln z0.lr, AVal.list z0.kf z0.keys.length fun i => [AVal.str (z1.keys.getD i [])]]] 0] D) else bif tst ((0 ≤ n4 ∧ n4 ≤ (↑m6 : Int) ∧ m6 ≤ 1099511627776 ∧ 1 ≤ 100 ∧ noteless (List.drop 4 [Obj.var vz0, Obj.var [AVal.int .i64 0], Obj.var [AVal.int .i64 0], Obj.var z3, Obj.arr 5 [[AVal.int .i64 z0.kind, AVal.int .i64 z0.int, AVal.str z0.text, AVal.list z0.lf z0.ln z0.lr, AVal.list z0.kf z0.keys.length fun i => [AVal.str (z1.keys.getD i [])]]] 0])) ∧ SubL [AVal.ptr (Oid.hp 3) 0, AVal.str [44]] [AVal.ptr (Oid.hp 3) 0, AVal.str [44]] ∧ [Obj.var vz0, Obj.var [AVal.int .i64 0], Obj.var [AVal.int .i64 0], Obj.var z3, Obj.arr 5 [[AVal.int .i64 z0.kind, AVal.int .i64 z0.int, AVal.str z0.text, AVal.list z0.lf z0.ln z0.lr, AVal.list z0.kf z0.keys.length fun i => [AVal.str (z1.keys.getD i [])]]] 0] = [Obj.var vz0, Obj.var [AVal.int .i64 0], Obj.var [AVal.int .i64 0], Obj.var [AVal.str l5, AVal.int .i64 n4], Obj.arr 5 [[AVal.int .i64 z0.kind, AVal.int .i64 z0.int, AVal.str z0.text, AVal.list z0.lf z0.ln z0.lr, AVal.list z0.kf z0.keys.length fun i => [AVal.str (z1.keys.getD i [])]]] 0]) then bif hpP [44] (List.drop n4.toNat l5) then k AExit.normal (stL 48 [0, 2, 3, 5, 8] [AVal.ptr (Oid.hp 3) 0, AVal.str e, AVal.int .i64 l, AVal.ptr (Oid.tmp 5) 0, AVal.ptr (Oid.tmp 8) 0] [5, 8] [[AVal.int .i64 5, AVal.int .i64 0, AVal.str [], AVal.own 4 0 (0 + 1) 0 false, AVal.list true 0 fun (x : Nat) => []], [AVal.int .i64 0, AVal.int .i64 0, AVal.str [], AVal.list true 0 fun (x : Nat) => [], AVal.list true 0 fun (x : Nat) => []]] [Obj.var vz0, Obj.var [AVal.int .i64 0], Obj.var [AVal.int .i64 0], Obj.var [AVal.str l5, AVal.int .i64 (n4 + (↑1 : Int))], Obj.arr 5 [[AVal.int .i64 z0.kind, AVal.int .i64 z0.int, AVal.str z0.text, AVal.list z0.lf z0.ln z0.lr, AVal.list z0.kf z0.keys.length fun i => [AVal.str (z1.keys.getD i [])]]] 0] D) else k (AExit.panic (AVal.iface 39 (AVal.int .i64 33))) (stL 48 [8] [AVal.ptr (Oid.tmp 8) 0] [8] [[]] [Obj.var vz0, Obj.var [AVal.int .i64 0], Obj.var [AVal.int .i64 0], Obj.var [AVal.str l5, AVal.int .i64 n4], Obj.arr 5 [[AVal.int .i64 z0.kind, AVal.int .i64 z0.int, AVal.str z0.text, AVal.list z0.lf z0.ln z0.lr, AVal.list z0.kf z0.keys.length fun i => [AVal.str (z1.keys.getD i [])]]] 0] D) else none else none else none) := by kernel_rfl
theorem it_b5 (KI : ItA → Prop) (RI : ItA → ItR) (K : RK) (T : Oc → Int → Oc) (E : RE) (KV : Oc → Int → Int → Prop) (V : Oc → Int → Int → VaD) (EV : RE) (e s : Oc) (a l : Int) (n v : Nat) (rows : List (List AVal)) (D : Dfs) (k : Kont) : lturn Tryz.prog (layIt0 K T E KV V EV) (itmFH KI RI) 122 4 [0,2,3,5,8] [5,8] [8] [8] (itS e l [.int .i64 5, .int .i64 0, .str [], .own 4 0 n v false, nilList] (heap4 s a ++ [.arr 5 rows v]) D) k = (
 let z0 := [Obj.var vz0, Obj.var [AVal.int .i64 0], Obj.var [AVal.int .i64 0], Obj.var [AVal.str s, AVal.int .i64 a], Obj.arr 5 rows v];
 let l0 : Oc := rS z0;
 let n1 : Int := rA z0;
 let n2 : Int := IntKind.i64.wrap (l - 1);
 let m3 : Nat := n + 1;
 let m4 : Nat := v + 1;
 let z1 := V (rS z0) (rA z0) (IntKind.i64.wrap (l - 1));
 let z3 := [AVal.str l0, AVal.int .i64 (EV l0 n1)];
 let n5 : Int := rA [Obj.var vz0, Obj.var [AVal.int .i64 0], Obj.var [AVal.int .i64 0], Obj.var z3, Obj.arr 5 (rows.append [[AVal.int .i64 (V l0 n1 n2).kind, AVal.int .i64 (V l0 n1 n2).int, AVal.str (V l0 n1 n2).text, AVal.list (V l0 n1 n2).lf (V l0 n1 n2).ln (V l0 n1 n2).lr, AVal.list (V l0 n1 n2).kf (V l0 n1 n2).keys.length fun i => [AVal.str (z1.keys.getD i [])]]]) m4];
 let l6 : Oc := rS [Obj.var vz0, Obj.var [AVal.int .i64 0], Obj.var [AVal.int .i64 0], Obj.var z3, Obj.arr 5 (rows.append [[AVal.int .i64 (V l0 n1 n2).kind, AVal.int .i64 (V l0 n1 n2).int, AVal.str (V l0 n1 n2).text, AVal.list (V l0 n1 n2).lf (V l0 n1 n2).ln (V l0 n1 n2).lr, AVal.list (V l0 n1 n2).kf (V l0 n1 n2).keys.length fun i => [AVal.str (z1.keys.getD i [])]]]) m4];
 let m7 : Nat := l6.length;
 let z2 := [AVal.str l6, AVal.int .i64 n5];
 let n8 : Int := rA [Obj.var vz0, Obj.var [AVal.int .i64 0], Obj.var [AVal.int .i64 0], Obj.var z2, Obj.arr 5 (rows.append [[AVal.int .i64 (V l0 n1 n2).kind, AVal.int .i64 (V l0 n1 n2).int, AVal.str (V l0 n1 n2).text, AVal.list (V l0 n1 n2).lf (V l0 n1 n2).ln (V l0 n1 n2).lr, AVal.list (V l0 n1 n2).kf (V l0 n1 n2).keys.length fun i => [AVal.str (z1.keys.getD i [])]]]) m4];
 let l9 : Oc := rS [Obj.var vz0, Obj.var [AVal.int .i64 0], Obj.var [AVal.int .i64 0], Obj.var z2, Obj.arr 5 (rows.append [[AVal.int .i64 (V l0 n1 n2).kind, AVal.int .i64 (V l0 n1 n2).int, AVal.str (V l0 n1 n2).text, AVal.list (V l0 n1 n2).lf (V l0 n1 n2).ln (V l0 n1 n2).lr, AVal.list (V l0 n1 n2).kf (V l0 n1 n2).keys.length fun i => [AVal.str (z1.keys.getD i [])]]]) m4];
 let m10 : Nat := l9.length;
 let z4 := [AVal.ptr (Oid.hp 3) 0, AVal.int .i64 n2];
  bif tst ((KV l0 n1 n2 ∧ noteless (List.drop 4 z0)) ∧ SubL z4 z4 ∧ z0 = [Obj.var vz0, Obj.var [AVal.int .i64 0], Obj.var [AVal.int .i64 0], Obj.var [AVal.str l0, AVal.int .i64 n1], Obj.arr 5 rows v]) then bif v == v && n == rows.length && decide ((2 * m3 + 1000) * 80 ≤ 281474976710656) && true then bif tst ((0 ≤ n5 ∧ n5 ≤ (↑m7 : Int) ∧ m7 ≤ 1099511627776 ∧ e.length ≤ 100 ∧ noteless (List.drop 4 [Obj.var vz0, Obj.var [AVal.int .i64 0], Obj.var [AVal.int .i64 0], Obj.var z3, Obj.arr 5 (rows.append [[AVal.int .i64 (V l0 n1 n2).kind, AVal.int .i64 (V l0 n1 n2).int, AVal.str (V l0 n1 n2).text, AVal.list (V l0 n1 n2).lf (V l0 n1 n2).ln (V l0 n1 n2).lr, AVal.list (V l0 n1 n2).kf (V l0 n1 n2).keys.length fun i => [AVal.str (z1.keys.getD i [])]]]) m4])) ∧ SubL [AVal.ptr (Oid.hp 3) 0, AVal.str e] [AVal.ptr (Oid.hp 3) 0, AVal.str e] ∧ [Obj.var vz0, Obj.var [AVal.int .i64 0], Obj.var [AVal.int .i64 0], Obj.var z3, Obj.arr 5 (rows.append [[AVal.int .i64 (V l0 n1 n2).kind, AVal.int .i64 (V l0 n1 n2).int, AVal.str (V l0 n1 n2).text, AVal.list (V l0 n1 n2).lf (V l0 n1 n2).ln (V l0 n1 n2).lr, AVal.list (V l0 n1 n2).kf (V l0 n1 n2).keys.length fun i => [AVal.str (z1.keys.getD i [])]]]) m4] = [Obj.var vz0, Obj.var [AVal.int .i64 0], Obj.var [AVal.int .i64 0], Obj.var z2, Obj.arr 5 (rows.append [[AVal.int .i64 (V l0 n1 n2).kind, AVal.int .i64 (V l0 n1 n2).int, AVal.str (V l0 n1 n2).text, AVal.list (V l0 n1 n2).lf (V l0 n1 n2).ln (V l0 n1 n2).lr, AVal.list (V l0 n1 n2).kf (V l0 n1 n2).keys.length fun i => [AVal.str (z1.keys.getD i [])]]]) m4]) then bif hpP e (List.drop n5.toNat l6) then k AExit.ret (stL 48 [8] [AVal.ptr (Oid.tmp 8) 0] [8] [[AVal.int .i64 5, AVal.int .i64 0, AVal.str [], AVal.own 4 0 m3 m4 false, AVal.list true 0 fun (x : Nat) => []]] [Obj.var vz0, Obj.var [AVal.int .i64 0], Obj.var [AVal.int .i64 0], Obj.var [AVal.str l6, AVal.int .i64 (n5 + (↑e.length : Int))], Obj.arr 5 (rows.append [[AVal.int .i64 (V l0 n1 n2).kind, AVal.int .i64 (V l0 n1 n2).int, AVal.str (V l0 n1 n2).text, AVal.list (V l0 n1 n2).lf (V l0 n1 n2).ln (V l0 n1 n2).lr, AVal.list (V l0 n1 n2).kf (V l0 n1 n2).keys.length fun i => [AVal.str (z1.keys.getD i [])]]]) m4] D) else bif tst ((0 ≤ n8 ∧ n8 ≤ (↑m10 : Int) ∧ m10 ≤ 1099511627776 ∧ 1 ≤ 100 ∧ noteless (List.drop 4 [Obj.var vz0, Obj.var [AVal.int .i64 0], Obj.var [AVal.int .i64 0], Obj.var z2, Obj.arr 5 (rows.append [[AVal.int .i64 (V l0 n1 n2).kind, AVal.int .i64 (V l0 n1 n2).int, AVal.str (V l0 n1 n2).text, AVal.list (V l0 n1 n2).lf (V l0 n1 n2).ln (V l0 n1 n2).lr, AVal.list (V l0 n1 n2).kf (V l0 n1 n2).keys.length fun i => [AVal.str (z1.keys.getD i [])]]]) m4])) ∧ SubL [AVal.ptr (Oid.hp 3) 0, AVal.str [44]] [AVal.ptr (Oid.hp 3) 0, AVal.str [44]] ∧ [Obj.var vz0, Obj.var [AVal.int .i64 0], Obj.var [AVal.int .i64 0], Obj.var z2, Obj.arr 5 (rows.append [[AVal.int .i64 (V l0 n1 n2).kind, AVal.int .i64 (V l0 n1 n2).int, AVal.str (V l0 n1 n2).text, AVal.list (V l0 n1 n2).lf (V l0 n1 n2).ln (V l0 n1 n2).lr, AVal.list (V l0 n1 n2).kf (V l0 n1 n2).keys.length fun i => [AVal.str (z1.keys.getD i [])]]]) m4] = [Obj.var vz0, Obj.var [AVal.int .i64 0], Obj.var [AVal.int .i64 0], Obj.var [AVal.str l9, AVal.int .i64 n8], Obj.arr 5 (rows.append [[AVal.int .i64 (V l0 n1 n2).kind, AVal.int .i64 (V l0 n1 n2).int, AVal.str (V l0 n1 n2).text, AVal.list (V l0 n1 n2).lf (V l0 n1 n2).ln (V l0 n1 n2).lr, AVal.list (V l0 n1 n2).kf (V l0 n1 n2).keys.length fun i => [AVal.str (z1.keys.getD i [])]]]) m4]) then bif hpP [44] (List.drop n8.toNat l9) then k AExit.normal (stL 48 [0, 2, 3, 5, 8] [AVal.ptr (Oid.hp 3) 0, AVal.str e, AVal.int .i64 l, AVal.ptr (Oid.tmp 5) 0, AVal.ptr (Oid.tmp 8) 0] [5, 8] [[AVal.int .i64 5, AVal.int .i64 0, AVal.str [], AVal.own 4 0 m3 m4 false, AVal.list true 0 fun (x : Nat) => []], [AVal.int .i64 0, AVal.int .i64 0, AVal.str [], AVal.list true 0 fun (x : Nat) => [], AVal.list true 0 fun (x : Nat) => []]] [Obj.var vz0, Obj.var [AVal.int .i64 0], Obj.var [AVal.int .i64 0], Obj.var [AVal.str l9, AVal.int .i64 (n8 + (↑1 : Int))], Obj.arr 5 (rows.append [[AVal.int .i64 (V l0 n1 n2).kind, AVal.int .i64 (V l0 n1 n2).int, AVal.str (V l0 n1 n2).text, AVal.list (V l0 n1 n2).lf (V l0 n1 n2).ln (V l0 n1 n2).lr, AVal.list (V l0 n1 n2).kf (V l0 n1 n2).keys.length fun i => [AVal.str (z1.keys.getD i [])]]]) m4] D) else k (AExit.panic (AVal.iface 39 (AVal.int .i64 33))) (stL 48 [8] [AVal.ptr (Oid.tmp 8) 0] [8] [[]] [Obj.var vz0, Obj.var [AVal.int .i64 0], Obj.var [AVal.int .i64 0], Obj.var [AVal.str l9, AVal.int .i64 n8], Obj.arr 5 (rows.append [[AVal.int .i64 (V l0 n1 n2).kind, AVal.int .i64 (V l0 n1 n2).int, AVal.str (V l0 n1 n2).text, AVal.list (V l0 n1 n2).lf (V l0 n1 n2).ln (V l0 n1 n2).lr, AVal.list (V l0 n1 n2).kf (V l0 n1 n2).keys.length fun i => [AVal.str (z1.keys.getD i [])]]]) m4] D) else none else none else none else none) := by kernel_rfl
theorem it_a6 (KI : ItA → Prop) (RI : ItA → ItR) (K : RK) (T : Oc → Int → Oc) (E : RE) (KV : Oc → Int → Int → Prop) (V : Oc → Int → Int → VaD) (EV : RE) (e s : Oc) (a l : Int) (D : Dfs) (k : Kont) : lturn Tryz.prog (layIt0 K T E KV V EV) (itmFH KI RI) 122 4 [0,2,3,5,8] [5,8] [8] [8] (itS e l [.int .i64 6, .int .i64 0, .str [], nilList, nilList] (heap4 s a) D) k = (
 let m0 : Nat := (rS (heap4 s a)).length;
 let z1 := [Obj.var vz0, Obj.var [AVal.int .i64 0], Obj.var [AVal.int .i64 0], Obj.var [AVal.str (rS (heap4 s a)), AVal.int .i64 (rA (heap4 s a) + (↑1 : Int))]];
 let l1 : Oc := rS z1;
 let n2 : Int := rA z1;
 let z3 := [Obj.var vz0, Obj.var [AVal.int .i64 0], Obj.var [AVal.int .i64 0], Obj.var [AVal.str l1, AVal.int .i64 (E l1 n2)], Obj.arr 1 [[AVal.str (T l1 n2)]] 0];
 let n3 : Int := rA z3;
 let l4 : Oc := rS z3;
 let m5 : Nat := l4.length;
 let z2 := [Obj.var vz0, Obj.var [AVal.int .i64 0], Obj.var [AVal.int .i64 0], Obj.var [AVal.str l4, AVal.int .i64 (n3 + (↑1 : Int))], Obj.arr 1 [[AVal.str (T l1 n2)]] 0];
 let l6 : Oc := rS z2;
 let n7 : Int := rA z2;
 let n8 : Int := IntKind.i64.wrap (l - 1);
 let z5 := [Obj.var vz0, Obj.var [AVal.int .i64 0], Obj.var [AVal.int .i64 0], Obj.var [AVal.str (rS z1), AVal.int .i64 (E (rS z1) (rA z1))], Obj.arr 1 [[AVal.str (T (rS z1) (rA z1))]] 0];
 let z0 := [Obj.var vz0, Obj.var [AVal.int .i64 0], Obj.var [AVal.int .i64 0], Obj.var [AVal.str (rS z5), AVal.int .i64 (rA z5 + (↑1 : Int))], Obj.arr 1 [[AVal.str (T (rS z1) (rA z1))]] 0];
 let z4 := V (rS z0) (rA z0) (IntKind.i64.wrap (l - 1));
 let z10 := [AVal.str l6, AVal.int .i64 (EV l6 n7)];
 let n9 : Int := rA [Obj.var vz0, Obj.var [AVal.int .i64 0], Obj.var [AVal.int .i64 0], Obj.var z10, Obj.arr 1 [[AVal.str (T l1 n2)]] 0, Obj.arr 5 [[AVal.int .i64 (V l6 n7 n8).kind, AVal.int .i64 (V l6 n7 n8).int, AVal.str (V l6 n7 n8).text, AVal.list (V l6 n7 n8).lf (V l6 n7 n8).ln (V l6 n7 n8).lr, AVal.list (V l6 n7 n8).kf (V l6 n7 n8).keys.length fun i => [AVal.str (z4.keys.getD i [])]]] 0];
 let l10 : Oc := rS [Obj.var vz0, Obj.var [AVal.int .i64 0], Obj.var [AVal.int .i64 0], Obj.var z10, Obj.arr 1 [[AVal.str (T l1 n2)]] 0, Obj.arr 5 [[AVal.int .i64 (V l6 n7 n8).kind, AVal.int .i64 (V l6 n7 n8).int, AVal.str (V l6 n7 n8).text, AVal.list (V l6 n7 n8).lf (V l6 n7 n8).ln (V l6 n7 n8).lr, AVal.list (V l6 n7 n8).kf (V l6 n7 n8).keys.length fun i => [AVal.str (z4.keys.getD i [])]]] 0];
 let m11 : Nat := l10.length;
 let z9 := [AVal.str l10, AVal.int .i64 n9];
 let n12 : Int := rA [Obj.var vz0, Obj.var [AVal.int .i64 0], Obj.var [AVal.int .i64 0], Obj.var z9, Obj.arr 1 [[AVal.str (T l1 n2)]] 0, Obj.arr 5 [[AVal.int .i64 (V l6 n7 n8).kind, AVal.int .i64 (V l6 n7 n8).int, AVal.str (V l6 n7 n8).text, AVal.list (V l6 n7 n8).lf (V l6 n7 n8).ln (V l6 n7 n8).lr, AVal.list (V l6 n7 n8).kf (V l6 n7 n8).keys.length fun i => [AVal.str (z4.keys.getD i [])]]] 0];
 let l13 : Oc := rS [Obj.var vz0, Obj.var [AVal.int .i64 0], Obj.var [AVal.int .i64 0], Obj.var z9, Obj.arr 1 [[AVal.str (T l1 n2)]] 0, Obj.arr 5 [[AVal.int .i64 (V l6 n7 n8).kind, AVal.int .i64 (V l6 n7 n8).int, AVal.str (V l6 n7 n8).text, AVal.list (V l6 n7 n8).lf (V l6 n7 n8).ln (V l6 n7 n8).lr, AVal.list (V l6 n7 n8).kf (V l6 n7 n8).keys.length fun i => [AVal.str (z4.keys.getD i [])]]] 0];
 let m14 : Nat := l13.length;
 let z6 := [Obj.var vz0, Obj.var [AVal.int .i64 0], Obj.var [AVal.int .i64 0], Obj.var [AVal.str l4, AVal.int .i64 n3], Obj.arr 1 [[AVal.str (T l1 n2)]] 0];
 let z7 := [Obj.var vz0, Obj.var [AVal.int .i64 0], Obj.var [AVal.int .i64 0], Obj.var [AVal.str (rS (heap4 s a)), AVal.int .i64 (rA (heap4 s a))]];
 let z8 := AExit.panic (AVal.iface 39 (AVal.int .i64 33));
 let z11 := [AVal.int .i64 6, AVal.int .i64 0, AVal.str [], AVal.own 5 0 (0 + 1) 0 false, AVal.own 4 0 (0 + 1) 0 false];
 let z12 := [AVal.ptr (Oid.hp 3) 0, AVal.int .i64 n8];
  bif tst ((0 ≤ rA (heap4 s a) ∧ rA (heap4 s a) ≤ (↑m0 : Int) ∧ m0 ≤ 1099511627776 ∧ 1 ≤ 100 ∧ noteless (List.drop 4 (heap4 s a))) ∧ SubL [AVal.ptr (Oid.hp 3) 0, AVal.str [34]] [AVal.ptr (Oid.hp 3) 0, AVal.str [34]] ∧ heap4 s a = z7) then bif hpP [34] (List.drop (rA (heap4 s a)).toNat (rS (heap4 s a))) then bif tst ((K l1 n2 ∧ noteless (List.drop 4 z1)) ∧ SubL [AVal.ptr (Oid.hp 3) 0] [AVal.ptr (Oid.hp 3) 0] ∧ z1 = [Obj.var vz0, Obj.var [AVal.int .i64 0], Obj.var [AVal.int .i64 0], Obj.var [AVal.str l1, AVal.int .i64 n2]]) then bif tst ((0 ≤ n3 ∧ n3 ≤ (↑m5 : Int) ∧ m5 ≤ 1099511627776 ∧ 1 ≤ 100 ∧ noteless (List.drop 4 z3)) ∧ SubL [AVal.ptr (Oid.hp 3) 0, AVal.str [58]] [AVal.ptr (Oid.hp 3) 0, AVal.str [58]] ∧ z3 = z6) then bif hpP [58] (List.drop n3.toNat l4) then bif tst ((KV l6 n7 n8 ∧ noteless (List.drop 4 z2)) ∧ SubL z12 z12 ∧ z2 = [Obj.var vz0, Obj.var [AVal.int .i64 0], Obj.var [AVal.int .i64 0], Obj.var [AVal.str l6, AVal.int .i64 n7], Obj.arr 1 [[AVal.str (T l1 n2)]] 0]) then bif tst ((0 ≤ n9 ∧ n9 ≤ (↑m11 : Int) ∧ m11 ≤ 1099511627776 ∧ e.length ≤ 100 ∧ noteless (List.drop 4 [Obj.var vz0, Obj.var [AVal.int .i64 0], Obj.var [AVal.int .i64 0], Obj.var z10, Obj.arr 1 [[AVal.str (T l1 n2)]] 0, Obj.arr 5 [[AVal.int .i64 (V l6 n7 n8).kind, AVal.int .i64 (V l6 n7 n8).int, AVal.str (V l6 n7 n8).text, AVal.list (V l6 n7 n8).lf (V l6 n7 n8).ln (V l6 n7 n8).lr, AVal.list (V l6 n7 n8).kf (V l6 n7 n8).keys.length fun i => [AVal.str (z4.keys.getD i [])]]] 0])) ∧ SubL [AVal.ptr (Oid.hp 3) 0, AVal.str e] [AVal.ptr (Oid.hp 3) 0, AVal.str e] ∧ [Obj.var vz0, Obj.var [AVal.int .i64 0], Obj.var [AVal.int .i64 0], Obj.var z10, Obj.arr 1 [[AVal.str (T l1 n2)]] 0, Obj.arr 5 [[AVal.int .i64 (V l6 n7 n8).kind, AVal.int .i64 (V l6 n7 n8).int, AVal.str (V l6 n7 n8).text, AVal.list (V l6 n7 n8).lf (V l6 n7 n8).ln (V l6 n7 n8).lr, AVal.list (V l6 n7 n8).kf (V l6 n7 n8).keys.length fun i => [AVal.str (z4.keys.getD i [])]]] 0] = [Obj.var vz0, Obj.var [AVal.int .i64 0], Obj.var [AVal.int .i64 0], Obj.var z9, Obj.arr 1 [[AVal.str (T l1 n2)]] 0, Obj.arr 5 [[AVal.int .i64 (V l6 n7 n8).kind, AVal.int .i64 (V l6 n7 n8).int, AVal.str (V l6 n7 n8).text, AVal.list (V l6 n7 n8).lf (V l6 n7 n8).ln (V l6 n7 n8).lr, AVal.list (V l6 n7 n8).kf (V l6 n7 n8).keys.length fun i => [AVal.str (z4.keys.getD i [])]]] 0]) then bif hpP e (List.drop n9.toNat l10) then k AExit.ret (stL 48 [8] [AVal.ptr (Oid.tmp 8) 0] [8] [z11] [Obj.var vz0, Obj.var [AVal.int .i64 0], Obj.var [AVal.int .i64 0], Obj.var [AVal.str l10, AVal.int .i64 (n9 + (↑e.length : Int))], Obj.arr 1 [[AVal.str (T l1 n2)]] 0, Obj.arr 5 [[AVal.int .i64 (V l6 n7 n8).kind, AVal.int .i64 (V l6 n7 n8).int, AVal.str (V l6 n7 n8).text, AVal.list (V l6 n7 n8).lf (V l6 n7 n8).ln (V l6 n7 n8).lr, AVal.list (V l6 n7 n8).kf (V l6 n7 n8).keys.length fun i => [AVal.str (z4.keys.getD i [])]]] 0] D) else bif tst ((0 ≤ n12 ∧ n12 ≤ (↑m14 : Int) ∧ m14 ≤ 1099511627776 ∧ 1 ≤ 100 ∧ noteless (List.drop 4 [Obj.var vz0, Obj.var [AVal.int .i64 0], Obj.var [AVal.int .i64 0], Obj.var z9, Obj.arr 1 [[AVal.str (T l1 n2)]] 0, Obj.arr 5 [[AVal.int .i64 (V l6 n7 n8).kind, AVal.int .i64 (V l6 n7 n8).int, AVal.str (V l6 n7 n8).text, AVal.list (V l6 n7 n8).lf (V l6 n7 n8).ln (V l6 n7 n8).lr, AVal.list (V l6 n7 n8).kf (V l6 n7 n8).keys.length fun i => [AVal.str (z4.keys.getD i [])]]] 0])) ∧ SubL [AVal.ptr (Oid.hp 3) 0, AVal.str [44]] [AVal.ptr (Oid.hp 3) 0, AVal.str [44]] ∧ [Obj.var vz0, Obj.var [AVal.int .i64 0], Obj.var [AVal.int .i64 0], Obj.var z9, Obj.arr 1 [[AVal.str (T l1 n2)]] 0, Obj.arr 5 [[AVal.int .i64 (V l6 n7 n8).kind, AVal.int .i64 (V l6 n7 n8).int, AVal.str (V l6 n7 n8).text, AVal.list (V l6 n7 n8).lf (V l6 n7 n8).ln (V l6 n7 n8).lr, AVal.list (V l6 n7 n8).kf (V l6 n7 n8).keys.length fun i => [AVal.str (z4.keys.getD i [])]]] 0] = [Obj.var vz0, Obj.var [AVal.int .i64 0], Obj.var [AVal.int .i64 0], Obj.var [AVal.str l13, AVal.int .i64 n12], Obj.arr 1 [[AVal.str (T l1 n2)]] 0, Obj.arr 5 [[AVal.int .i64 (V l6 n7 n8).kind, AVal.int .i64 (V l6 n7 n8).int, AVal.str (V l6 n7 n8).text, AVal.list (V l6 n7 n8).lf (V l6 n7 n8).ln (V l6 n7 n8).lr, AVal.list (V l6 n7 n8).kf (V l6 n7 n8).keys.length fun i => [AVal.str (z4.keys.getD i [])]]] 0]) then bif hpP [44] (List.drop n12.toNat l13) then k AExit.normal (stL 48 [0, 2, 3, 5, 8] [AVal.ptr (Oid.hp 3) 0, AVal.str e, AVal.int .i64 l, AVal.ptr (Oid.tmp 5) 0, AVal.ptr (Oid.tmp 8) 0] [5, 8] [z11, [AVal.int .i64 0, AVal.int .i64 0, AVal.str [], AVal.list true 0 fun (x : Nat) => [], AVal.list true 0 fun (x : Nat) => []]] [Obj.var vz0, Obj.var [AVal.int .i64 0], Obj.var [AVal.int .i64 0], Obj.var [AVal.str l13, AVal.int .i64 (n12 + (↑1 : Int))], Obj.arr 1 [[AVal.str (T l1 n2)]] 0, Obj.arr 5 [[AVal.int .i64 (V l6 n7 n8).kind, AVal.int .i64 (V l6 n7 n8).int, AVal.str (V l6 n7 n8).text, AVal.list (V l6 n7 n8).lf (V l6 n7 n8).ln (V l6 n7 n8).lr, AVal.list (V l6 n7 n8).kf (V l6 n7 n8).keys.length fun i => [AVal.str (z4.keys.getD i [])]]] 0] D) else k z8 (stL 48 [8] [AVal.ptr (Oid.tmp 8) 0] [8] [[]] [Obj.var vz0, Obj.var [AVal.int .i64 0], Obj.var [AVal.int .i64 0], Obj.var [AVal.str l13, AVal.int .i64 n12], Obj.arr 1 [[AVal.str (T l1 n2)]] 0, Obj.arr 5 [[AVal.int .i64 (V l6 n7 n8).kind, AVal.int .i64 (V l6 n7 n8).int, AVal.str (V l6 n7 n8).text, AVal.list (V l6 n7 n8).lf (V l6 n7 n8).ln (V l6 n7 n8).lr, AVal.list (V l6 n7 n8).kf (V l6 n7 n8).keys.length fun i => [AVal.str (z4.keys.getD i [])]]] 0] D) else none else none else none else k z8 (stL 48 [8] [AVal.ptr (Oid.tmp 8) 0] [8] [[]] z6 D) else none else none else k z8 (stL 48 [8] [AVal.ptr (Oid.tmp 8) 0] [8] [[]] z7 D) else none) := by kernel_rfl
theorem it_b6 (KI : ItA → Prop) (RI : ItA → ItR) (K : RK) (T : Oc → Int → Oc) (E : RE) (KV : Oc → Int → Int → Prop) (V : Oc → Int → Int → VaD) (EV : RE) (e s : Oc) (a l : Int) (n v n2 v2 : Nat) (rows krows : List (List AVal)) (D : Dfs) (k : Kont) : lturn Tryz.prog (layIt0 K T E KV V EV) (itmFH KI RI) 122 4 [0,2,3,5,8] [5,8] [8] [8] (itS e l [.int .i64 6, .int .i64 0, .str [], .own 5 0 n v false, .own 4 0 n2 v2 false] (heap4 s a ++ [.arr 1 krows v2, .arr 5 rows v]) D) k = (
 let z2 := [Obj.var vz0, Obj.var [AVal.int .i64 0], Obj.var [AVal.int .i64 0], Obj.var [AVal.str s, AVal.int .i64 a], Obj.arr 1 krows v2, Obj.arr 5 rows v];
 let n0 : Int := rA z2;
 let l1 : Oc := rS z2;
 let m2 : Nat := l1.length;
 let z4 := [Obj.var vz0, Obj.var [AVal.int .i64 0], Obj.var [AVal.int .i64 0], Obj.var [AVal.str l1, AVal.int .i64 (n0 + (↑1 : Int))], Obj.arr 1 krows v2, Obj.arr 5 rows v];
 let l3 : Oc := rS z4;
 let n4 : Int := rA z4;
 let m5 : Nat := n2 + 1;
 let m6 : Nat := v2 + 1;
 let z3 := krows.append [[AVal.str (T l3 n4)]];
 let z6 := [Obj.var vz0, Obj.var [AVal.int .i64 0], Obj.var [AVal.int .i64 0], Obj.var [AVal.str l3, AVal.int .i64 (E l3 n4)], Obj.arr 1 z3 m6, Obj.arr 5 rows v];
 let n7 : Int := rA z6;
 let l8 : Oc := rS z6;
 let m9 : Nat := l8.length;
 let z5 := [Obj.var vz0, Obj.var [AVal.int .i64 0], Obj.var [AVal.int .i64 0], Obj.var [AVal.str l8, AVal.int .i64 (n7 + (↑1 : Int))], Obj.arr 1 z3 m6, Obj.arr 5 rows v];
 let l10 : Oc := rS z5;
 let n11 : Int := rA z5;
 let n12 : Int := IntKind.i64.wrap (l - 1);
 let m13 : Nat := n + 1;
 let m14 : Nat := v + 1;
 let z1 := [Obj.var vz0, Obj.var [AVal.int .i64 0], Obj.var [AVal.int .i64 0], Obj.var [AVal.str (rS z2), AVal.int .i64 (rA z2 + (↑1 : Int))], Obj.arr 1 krows v2, Obj.arr 5 rows v];
 let z16 := krows.append [[AVal.str (T (rS z1) (rA z1))]];
 let z8 := [Obj.var vz0, Obj.var [AVal.int .i64 0], Obj.var [AVal.int .i64 0], Obj.var [AVal.str (rS z1), AVal.int .i64 (E (rS z1) (rA z1))], Obj.arr 1 z16 (v2 + 1), Obj.arr 5 rows v];
 let z0 := [Obj.var vz0, Obj.var [AVal.int .i64 0], Obj.var [AVal.int .i64 0], Obj.var [AVal.str (rS z8), AVal.int .i64 (rA z8 + (↑1 : Int))], Obj.arr 1 z16 (v2 + 1), Obj.arr 5 rows v];
 let z7 := V (rS z0) (rA z0) (IntKind.i64.wrap (l - 1));
 let z13 := [AVal.str l10, AVal.int .i64 (EV l10 n11)];
 let n15 : Int := rA [Obj.var vz0, Obj.var [AVal.int .i64 0], Obj.var [AVal.int .i64 0], Obj.var z13, Obj.arr 1 z3 m6, Obj.arr 5 (rows.append [[AVal.int .i64 (V l10 n11 n12).kind, AVal.int .i64 (V l10 n11 n12).int, AVal.str (V l10 n11 n12).text, AVal.list (V l10 n11 n12).lf (V l10 n11 n12).ln (V l10 n11 n12).lr, AVal.list (V l10 n11 n12).kf (V l10 n11 n12).keys.length fun i => [AVal.str (z7.keys.getD i [])]]]) m14];
 let l16 : Oc := rS [Obj.var vz0, Obj.var [AVal.int .i64 0], Obj.var [AVal.int .i64 0], Obj.var z13, Obj.arr 1 z3 m6, Obj.arr 5 (rows.append [[AVal.int .i64 (V l10 n11 n12).kind, AVal.int .i64 (V l10 n11 n12).int, AVal.str (V l10 n11 n12).text, AVal.list (V l10 n11 n12).lf (V l10 n11 n12).ln (V l10 n11 n12).lr, AVal.list (V l10 n11 n12).kf (V l10 n11 n12).keys.length fun i => [AVal.str (z7.keys.getD i [])]]]) m14];
 let m17 : Nat := l16.length;
 let z11 := [AVal.str l16, AVal.int .i64 n15];
 let n18 : Int := rA [Obj.var vz0, Obj.var [AVal.int .i64 0], Obj.var [AVal.int .i64 0], Obj.var z11, Obj.arr 1 z3 m6, Obj.arr 5 (rows.append [[AVal.int .i64 (V l10 n11 n12).kind, AVal.int .i64 (V l10 n11 n12).int, AVal.str (V l10 n11 n12).text, AVal.list (V l10 n11 n12).lf (V l10 n11 n12).ln (V l10 n11 n12).lr, AVal.list (V l10 n11 n12).kf (V l10 n11 n12).keys.length fun i => [AVal.str (z7.keys.getD i [])]]]) m14];
 let l19 : Oc := rS [Obj.var vz0, Obj.var [AVal.int .i64 0], Obj.var [AVal.int .i64 0], Obj.var z11, Obj.arr 1 z3 m6, Obj.arr 5 (rows.append [[AVal.int .i64 (V l10 n11 n12).kind, AVal.int .i64 (V l10 n11 n12).int, AVal.str (V l10 n11 n12).text, AVal.list (V l10 n11 n12).lf (V l10 n11 n12).ln (V l10 n11 n12).lr, AVal.list (V l10 n11 n12).kf (V l10 n11 n12).keys.length fun i => [AVal.str (z7.keys.getD i [])]]]) m14];
 let m20 : Nat := l19.length;
 let z9 := [Obj.var vz0, Obj.var [AVal.int .i64 0], Obj.var [AVal.int .i64 0], Obj.var [AVal.str l1, AVal.int .i64 n0], Obj.arr 1 krows v2, Obj.arr 5 rows v];
 let z10 := [Obj.var vz0, Obj.var [AVal.int .i64 0], Obj.var [AVal.int .i64 0], Obj.var [AVal.str l8, AVal.int .i64 n7], Obj.arr 1 z3 m6, Obj.arr 5 rows v];
 let z12 := AExit.panic (AVal.iface 39 (AVal.int .i64 33));
 let z14 := [AVal.int .i64 6, AVal.int .i64 0, AVal.str [], AVal.own 5 0 m13 m14 false, AVal.own 4 0 m5 m6 false];
 let z15 := [AVal.ptr (Oid.hp 3) 0, AVal.int .i64 n12];
  bif tst ((0 ≤ n0 ∧ n0 ≤ (↑m2 : Int) ∧ m2 ≤ 1099511627776 ∧ 1 ≤ 100 ∧ noteless (List.drop 4 z2)) ∧ SubL [AVal.ptr (Oid.hp 3) 0, AVal.str [34]] [AVal.ptr (Oid.hp 3) 0, AVal.str [34]] ∧ z2 = z9) then bif hpP [34] (List.drop n0.toNat l1) then bif tst ((K l3 n4 ∧ noteless (List.drop 4 z4)) ∧ SubL [AVal.ptr (Oid.hp 3) 0] [AVal.ptr (Oid.hp 3) 0] ∧ z4 = [Obj.var vz0, Obj.var [AVal.int .i64 0], Obj.var [AVal.int .i64 0], Obj.var [AVal.str l3, AVal.int .i64 n4], Obj.arr 1 krows v2, Obj.arr 5 rows v]) then bif v2 == v2 && n2 == krows.length && decide ((2 * m5 + 1000) * 16 ≤ 281474976710656) && true then bif tst ((0 ≤ n7 ∧ n7 ≤ (↑m9 : Int) ∧ m9 ≤ 1099511627776 ∧ 1 ≤ 100 ∧ noteless (List.drop 4 z6)) ∧ SubL [AVal.ptr (Oid.hp 3) 0, AVal.str [58]] [AVal.ptr (Oid.hp 3) 0, AVal.str [58]] ∧ z6 = z10) then bif hpP [58] (List.drop n7.toNat l8) then bif tst ((KV l10 n11 n12 ∧ noteless (List.drop 4 z5)) ∧ SubL z15 z15 ∧ z5 = [Obj.var vz0, Obj.var [AVal.int .i64 0], Obj.var [AVal.int .i64 0], Obj.var [AVal.str l10, AVal.int .i64 n11], Obj.arr 1 z3 m6, Obj.arr 5 rows v]) then bif v == v && n == rows.length && decide ((2 * m13 + 1000) * 80 ≤ 281474976710656) && true then bif tst ((0 ≤ n15 ∧ n15 ≤ (↑m17 : Int) ∧ m17 ≤ 1099511627776 ∧ e.length ≤ 100 ∧ noteless (List.drop 4 [Obj.var vz0, Obj.var [AVal.int .i64 0], Obj.var [AVal.int .i64 0], Obj.var z13, Obj.arr 1 z3 m6, Obj.arr 5 (rows.append [[AVal.int .i64 (V l10 n11 n12).kind, AVal.int .i64 (V l10 n11 n12).int, AVal.str (V l10 n11 n12).text, AVal.list (V l10 n11 n12).lf (V l10 n11 n12).ln (V l10 n11 n12).lr, AVal.list (V l10 n11 n12).kf (V l10 n11 n12).keys.length fun i => [AVal.str (z7.keys.getD i [])]]]) m14])) ∧ SubL [AVal.ptr (Oid.hp 3) 0, AVal.str e] [AVal.ptr (Oid.hp 3) 0, AVal.str e] ∧ [Obj.var vz0, Obj.var [AVal.int .i64 0], Obj.var [AVal.int .i64 0], Obj.var z13, Obj.arr 1 z3 m6, Obj.arr 5 (rows.append [[AVal.int .i64 (V l10 n11 n12).kind, AVal.int .i64 (V l10 n11 n12).int, AVal.str (V l10 n11 n12).text, AVal.list (V l10 n11 n12).lf (V l10 n11 n12).ln (V l10 n11 n12).lr, AVal.list (V l10 n11 n12).kf (V l10 n11 n12).keys.length fun i => [AVal.str (z7.keys.getD i [])]]]) m14] = [Obj.var vz0, Obj.var [AVal.int .i64 0], Obj.var [AVal.int .i64 0], Obj.var z11, Obj.arr 1 z3 m6, Obj.arr 5 (rows.append [[AVal.int .i64 (V l10 n11 n12).kind, AVal.int .i64 (V l10 n11 n12).int, AVal.str (V l10 n11 n12).text, AVal.list (V l10 n11 n12).lf (V l10 n11 n12).ln (V l10 n11 n12).lr, AVal.list (V l10 n11 n12).kf (V l10 n11 n12).keys.length fun i => [AVal.str (z7.keys.getD i [])]]]) m14]) then bif hpP e (List.drop n15.toNat l16) then k AExit.ret (stL 48 [8] [AVal.ptr (Oid.tmp 8) 0] [8] [z14] [Obj.var vz0, Obj.var [AVal.int .i64 0], Obj.var [AVal.int .i64 0], Obj.var [AVal.str l16, AVal.int .i64 (n15 + (↑e.length : Int))], Obj.arr 1 z3 m6, Obj.arr 5 (rows.append [[AVal.int .i64 (V l10 n11 n12).kind, AVal.int .i64 (V l10 n11 n12).int, AVal.str (V l10 n11 n12).text, AVal.list (V l10 n11 n12).lf (V l10 n11 n12).ln (V l10 n11 n12).lr, AVal.list (V l10 n11 n12).kf (V l10 n11 n12).keys.length fun i => [AVal.str (z7.keys.getD i [])]]]) m14] D) else bif tst ((0 ≤ n18 ∧ n18 ≤ (↑m20 : Int) ∧ m20 ≤ 1099511627776 ∧ 1 ≤ 100 ∧ noteless (List.drop 4 [Obj.var vz0, Obj.var [AVal.int .i64 0], Obj.var [AVal.int .i64 0], Obj.var z11, Obj.arr 1 z3 m6, Obj.arr 5 (rows.append [[AVal.int .i64 (V l10 n11 n12).kind, AVal.int .i64 (V l10 n11 n12).int, AVal.str (V l10 n11 n12).text, AVal.list (V l10 n11 n12).lf (V l10 n11 n12).ln (V l10 n11 n12).lr, AVal.list (V l10 n11 n12).kf (V l10 n11 n12).keys.length fun i => [AVal.str (z7.keys.getD i [])]]]) m14])) ∧ SubL [AVal.ptr (Oid.hp 3) 0, AVal.str [44]] [AVal.ptr (Oid.hp 3) 0, AVal.str [44]] ∧ [Obj.var vz0, Obj.var [AVal.int .i64 0], Obj.var [AVal.int .i64 0], Obj.var z11, Obj.arr 1 z3 m6, Obj.arr 5 (rows.append [[AVal.int .i64 (V l10 n11 n12).kind, AVal.int .i64 (V l10 n11 n12).int, AVal.str (V l10 n11 n12).text, AVal.list (V l10 n11 n12).lf (V l10 n11 n12).ln (V l10 n11 n12).lr, AVal.list (V l10 n11 n12).kf (V l10 n11 n12).keys.length fun i => [AVal.str (z7.keys.getD i [])]]]) m14] = [Obj.var vz0, Obj.var [AVal.int .i64 0], Obj.var [AVal.int .i64 0], Obj.var [AVal.str l19, AVal.int .i64 n18], Obj.arr 1 z3 m6, Obj.arr 5 (rows.append [[AVal.int .i64 (V l10 n11 n12).kind, AVal.int .i64 (V l10 n11 n12).int, AVal.str (V l10 n11 n12).text, AVal.list (V l10 n11 n12).lf (V l10 n11 n12).ln (V l10 n11 n12).lr, AVal.list (V l10 n11 n12).kf (V l10 n11 n12).keys.length fun i => [AVal.str (z7.keys.getD i [])]]]) m14]) then bif hpP [44] (List.drop n18.toNat l19) then k AExit.normal (stL 48 [0, 2, 3, 5, 8] [AVal.ptr (Oid.hp 3) 0, AVal.str e, AVal.int .i64 l, AVal.ptr (Oid.tmp 5) 0, AVal.ptr (Oid.tmp 8) 0] [5, 8] [z14, [AVal.int .i64 0, AVal.int .i64 0, AVal.str [], AVal.list true 0 fun (x : Nat) => [], AVal.list true 0 fun (x : Nat) => []]] [Obj.var vz0, Obj.var [AVal.int .i64 0], Obj.var [AVal.int .i64 0], Obj.var [AVal.str l19, AVal.int .i64 (n18 + (↑1 : Int))], Obj.arr 1 z3 m6, Obj.arr 5 (rows.append [[AVal.int .i64 (V l10 n11 n12).kind, AVal.int .i64 (V l10 n11 n12).int, AVal.str (V l10 n11 n12).text, AVal.list (V l10 n11 n12).lf (V l10 n11 n12).ln (V l10 n11 n12).lr, AVal.list (V l10 n11 n12).kf (V l10 n11 n12).keys.length fun i => [AVal.str (z7.keys.getD i [])]]]) m14] D) else k z12 (stL 48 [8] [AVal.ptr (Oid.tmp 8) 0] [8] [[]] [Obj.var vz0, Obj.var [AVal.int .i64 0], Obj.var [AVal.int .i64 0], Obj.var [AVal.str l19, AVal.int .i64 n18], Obj.arr 1 z3 m6, Obj.arr 5 (rows.append [[AVal.int .i64 (V l10 n11 n12).kind, AVal.int .i64 (V l10 n11 n12).int, AVal.str (V l10 n11 n12).text, AVal.list (V l10 n11 n12).lf (V l10 n11 n12).ln (V l10 n11 n12).lr, AVal.list (V l10 n11 n12).kf (V l10 n11 n12).keys.length fun i => [AVal.str (z7.keys.getD i [])]]]) m14] D) else none else none else none else none else k z12 (stL 48 [8] [AVal.ptr (Oid.tmp 8) 0] [8] [[]] z10 D) else none else none else none else k z12 (stL 48 [8] [AVal.ptr (Oid.tmp 8) 0] [8] [[]] z9 D) else none) := by kernel_rfl
end Go.Mu
namespace Go.Mu
open Go Go.Proofs
def TS (s : Oc) (a : Int) : Oc := (pcsS (s.drop a.toNat)).flatten
theorem layStk_ok : (layStk plnM KS ES XS).OK Tryz.prog := layStk0_ok.loop1 (id := 2) (by kernel_rfl) (by kernel_rfl) (by kernel_rfl) stkSp_ok
theorem rstr_ok (s : Oc) (a : Int) (h : KS s a) : CallOK Tryz.prog 121 [.ptr (.hp 3) 0] (heap4 s a) (.ret (.str (TS s a)) (heap4 s (ES s a))) := by
 have hXS : XS s a Bld.new = addsB Bld.new (pcsS (s.drop a.toNat)) := rfl
 have hcan : (XS s a Bld.new).can 4 6 := by rw [hXS]; exact addsB_can _ (Bld.new_can 4 6)
 have hT : (XS s a Bld.new).t = TS s a := by rw [hXS, addsB_t]; rfl
 have hlen : (TS s a).length ≤ 1099511627776 := by
  obtain ⟨h0, hl, l, r, hk, hd⟩ := h
  unfold TS
  rw [hd, pcsS_of hk]
  have h1 := flat4 l
  have h2 := inT_ge (l := l)
  have h3 := congrArg List.length hd
  rw [List.length_drop, List.length_append, List.length_cons] at h3
  omega
 have hc : CallOK Tryz.prog 121 [.ptr (.hp 3) 0] (heap4 s a) (.ret (.str (XS s a Bld.new).t) (heap4 s (ES s a) ++ [.var [(XS s a Bld.new).ad, (XS s a Bld.new).b], .note bdT 2, .arr 1 [] (bif (XS s a Bld.new).t == [] then (XS s a Bld.new).v else (XS s a Bld.new).v + 1), .note bT 0])) :=
  layStk_ok.call (fun k => (rstr_fun plnM KS ES XS s a k s rfl a rfl _ rfl (XS s a Bld.new).t rfl (ES s a) rfl).trans (by
   refine cT (tst_true ⟨⟨h, Bld.new_can 4 6, rfl⟩, .refl _, rfl, rfl⟩) ?_
   refine cT (tst_true ⟨⟨hcan, by rw [hT]; exact hlen⟩, .refl _, rfl⟩) ?_
   rfl))
 rw [hT] at hc
 refine CallOK.shrink hc (Nat.le_refl _) rfl (fun x hx => ?_)
 simp only [List.mem_cons, List.not_mem_nil, or_false] at hx
 rcases hx with rfl | rfl | rfl | rfl <;> rfl
theorem rstTold_ok : ∀ xs H k out, rstTold KS TS ES xs H k = some out → ∃ o, CallOK Tryz.prog 121 xs H o ∧ k o = some out := mkF_ok fun x h => ⟨_, fun k => rfl, frame4 (rstr_ok x.s x.a h.1) refs_1 x.G h.2⟩
end Go.Mu
namespace Go.Mu
open Go Go.Proofs
theorem bl_tri : ∀ x y : Oc, (Op.bytesLess x y || x == y) = !Op.bytesLess y x
 | [], [] => rfl
 | [], b :: y => rfl
 | a :: x, [] => rfl
 | a :: x, b :: y => by
  have ih := bl_tri x y
  have hc : (a :: x == b :: y) = (a == b && x == y) := rfl
  rw [hc]
  simp only [Op.bytesLess]
  by_cases h1 : a < b
  · have h2 : ¬ b < a := fun h => absurd (UInt8.lt_trans h1 h) (UInt8.lt_irrefl a)
    have h3 : ¬ b = a := fun h => by subst h; exact absurd h1 (UInt8.lt_irrefl b)
    simp [h1, h2, h3]
  · by_cases h2 : b < a
    · have h3 : ¬ a = b := fun h => by subst h; exact h1 h2
      simp [h1, h2, h3]
    · have h3 : a = b := UInt8.le_antisymm (UInt8.not_lt.1 h2) (UInt8.not_lt.1 h1)
      subst h3
      simp only [h1, UInt8.lt_irrefl, beq_self_eq_true, Bool.true_and, decide_false, Bool.false_or]
      exact ih
def riHit (ks : List Oc) (i : Nat) : Bool := bif !nameB (ks.getD i []) then true else bif decide ((i : Int) > 0) then (Op.bytesLess (ks.getD i []) (ks.getD (i - 1) []) || ks.getD i [] == ks.getD (i - 1) []) else false
def riB (ks : List Oc) : Bool := !(List.range ks.length).any (riHit ks)
def riX (x : AVal) : Bool := riB (decL decS x)
def WkD (x : AVal) : Prop := (decL decS x).length ≤ 1099511627776 ∧ (∀ k ∈ decL decS x, k.length ≤ 4611686018427387903) ∧ x = canK x
theorem dec_ss (f : Bool) (ks : List Oc) : decL decS (encSs f ks) = ks := decL_encL (fun a => rfl) ks
theorem can_ss (f : Bool) (ks : List Oc) : canK (encSs f ks) = encSs f ks := by unfold canK; rw [dec_ss]; rfl
noncomputable abbrev riTurn := lturn Tryz.prog layRi0 (riFH WkD riX) 95 2 [0,3] [] [2] []
theorem ri_rd (f : Bool) (ks : List Oc) (hl : ks.length ≤ 1099511627776) (hk : ∀ k ∈ ks, k.length ≤ 4611686018427387903) (i : Nat) (hi : i < ks.length) (D : Dfs) (k : Kont) :
 riTurn (stL 32 [0,3] [encSs f ks, .int .i64 (i : Nat)] [] [] [] D) k = cond (riHit ks i) (k .ret (stL 32 [2] [.bool false] [] [] [] D)) (k .normal (stL 32 [0,3] [encSs f ks, .int .i64 ((i + 1 : Nat) : Int)] [] [] [] D)) := by
 refine (ri_step WkD riX f ks i D k).trans ?_
 have e1 : IntKind.i64.wrap ((i : Int) + 1) = ((i + 1 : Nat) : Int) := wrap_add1 (by omega)
 have e2 : IntKind.i64.wrap ((i : Int) - 1) = (i : Int) - 1 := wrap_of (by omega) (by omega)
 have e3 : ((i : Int) - 1).toNat = i - 1 := by omega
 have hm : (ks.getD i []).length ≤ 4611686018427387903 := hk _ (by rw [List.getD_eq_getElem?_getD, List.getElem?_eq_getElem hi]; exact List.getElem_mem hi)
 have hg : (decide (0 ≤ (i : Int) - 1) && decide ((i : Int) - 1 < (ks.length : Nat)) || !(!!nameB (ks.getD i []) && decide ((i : Int) > 0))) = true := by
  by_cases h0 : (i : Int) > 0
  · rw [dT (show 0 ≤ (i : Int) - 1 by omega), dT (show (i : Int) - 1 < (ks.length : Nat) by omega)]; rfl
  · rw [dF h0]; simp
 simp only [Int.toNat_natCast, e1, e2, e3, hg, dT hm, dT (show (i : Int) < (ks.length : Nat) by omega), dT (show (0 : Int) ≤ (i : Int) by omega), Bool.and_self, Bool.true_or, cond_true]
 unfold riHit
 cases (bif !nameB (ks.getD i []) then true else bif decide ((i : Int) > 0) then (Op.bytesLess (ks.getD i []) (ks.getD (i - 1) []) || ks.getD i [] == ks.getD (i - 1) []) else false) <;> rfl
theorem riSp_ok : SpOK riTurn 32 [0,3] [] [2] [] (riSp WkD riX) := mkL_ok fun x h => by
 obtain ⟨h1, h2, h3⟩ := h
 have eR : riX x = riB (decL decS x) := rfl
 show ∃ e vs bs H', (∀ k : AExit → List AVal → List (List AVal) → Heap → Ans, cond (riX x) _ _ = k e vs bs H') ∧ _
 rw [eR]
 unfold canK
 generalize decL decS x = ks at *
 generalize fullOf x = f
 have hN : ∀ D k, riTurn (stL 32 [0,3] [encSs f ks, .int .i64 (ks.length : Nat)] [] [] [] D) k = k (.exit 0) (stL 32 [2] [.undef] [] [] [] D) := fun D k => by
  refine (ri_step WkD riX f ks ks.length D k).trans ?_
  simp only [dF (show ¬ (ks.length : Int) < (ks.length : Nat) by omega), cond_false]
 unfold riB
 cases ha : (List.range ks.length).find? (riHit ks) with
 | none =>
  rw [find_any.1 ha]
  exact ⟨_, _, _, _, fun k => rfl, none_runs (fun i => [encSs f ks, .int .i64 (i : Nat)]) [] [] (riHit ks) ks.length (by simp) (fun i hi D k => ri_rd f ks h1 h2 i hi D k) hN ha⟩
 | some j =>
  have : (List.range ks.length).any (riHit ks) = true := by
   cases hb : (List.range ks.length).any (riHit ks) with
   | true => rfl
   | false => rw [find_any.2 hb] at ha; cases ha
  rw [this]
  exact ⟨_, _, _, _, fun k => rfl, find_runs (fun i => [encSs f ks, .int .i64 (i : Nat)]) [] [] (riHit ks) ks.length (v1 := fun _ => [.bool false]) (b1 := fun _ => []) (H1 := fun _ => []) (by simp) (fun i hi D k => ri_rd f ks h1 h2 i hi D k) ha⟩
theorem layRi0_ok : layRi0.OK Tryz.prog := Lay.nil_ok.addF rNameTold_ok
theorem layRi_ok : (layRi WkD riX).OK Tryz.prog := layRi0_ok.loop1 (id := 2) (by kernel_rfl) (by kernel_rfl) (by kernel_rfl) riSp_ok
theorem riTold_ok : ∀ xs H k out, riTold WkD riX xs H k = some out → ∃ o, CallOK Tryz.prog 95 xs H o ∧ k o = some out := mkF_ok fun x h => ⟨_, fun k => rfl, by
 have hx := h.2.2
 have key := fun k => ri_fun WkD riX (fullOf x) (decL decS x) k
 have e : (AVal.list (fullOf x) (decL decS x).length fun i => [AVal.str ((decL decS x).getD i [])]) = x := hx.symm
 rw [e] at key
 refine layRi_ok.callF (G := []) rfl (fun k => (key k).trans ?_)
 refine cT (tst_true ⟨h, by rw [← hx]; exact .refl _, by trivial⟩) ?_
 cases riX x <;> rfl⟩
def ckMany (v : VaD) : Bool := bif v.kind == 5 then true else v.kind == 6
def ckBad (v : VaD) : Bool := bif
 bif
  bif
   bif bif decide (v.kind < 0) then true else decide (v.kind > 11) then true
   else bif v.kind != 3 then v.int != 0 else false then
   true
  else bif !bif v.kind == 4 then true else decide (v.kind ≥ 7) then !v.text == [] else false then
  true
 else bif !ckMany v then decide ((v.ln : Int) > 0) else false then
 true
 else bif v.kind != 6 then decide ((v.keys.length : Int) > 0) else false
def ckKey (v : VaD) : Bool := bif v.kind == 6 then (bif (v.keys.length : Int) != (v.ln : Int) then true else !riB v.keys) else false
def ckB (C : VaD → Int → Int) (v : VaD) (c : Int) : Int :=
 bif decide ((v.text.length : Int) > 4096) then 5 else bif (bif decide ((v.ln : Int) > 1024) then true else decide ((v.keys.length : Int) > 1024)) then 3 else bif ckBad v then 9 else bif ckKey v then 9 else
  bif (vals v.list).any (fun x => C x (c + 1) != 0) then C ((vals v.list).getD ((vals v.list).findIdx (fun x => C x (c + 1) != 0)) va0) (c + 1) else 0
def chkV : Nat → VaD → Int → Int
 | 0, _, _ => 0
 | d + 1, v, c => bif (bif ckMany v then c == 16 else false) then 42 else ckB (chkV d) v c
theorem chkV_s (d : Nat) (v : VaD) (c : Int) : chkV (d + 1) v c = bif (bif ckMany v then c == 16 else false) then 42 else ckB (chkV d) v c := rfl
def chR (d : Nat) (x : List AVal) (c : Int) : Int := chkV d (decVa x) c
theorem chR_enc (d : Nat) (v : VaD) (c : Int) : chR d (encVa v) c = chkV d v c := by unfold chR; rw [decVa_enc]
def cLb (d : Nat) (x : List AVal) (c : Int) : Bool := (vals (decVa x).list).any (fun v => chkV d v (c + 1) != 0)
def cLv (d : Nat) (x : List AVal) (c : Int) : Int := chkV d ((vals (decVa x).list).getD ((vals (decVa x).list).findIdx (fun v => chkV d v (c + 1) != 0)) va0) (c + 1)
def VcD (d : Nat) (c : Int) (x : List AVal) : Prop := (∃ v : VaD, x = encVa (canA v) ∧ WlD d v.list ∧ (c ≤ 15 ∨ vals v.list = [])) ∧ 0 ≤ c ∧ c ≤ 16
noncomputable abbrev ccTurn (d : Nat) := lturn Tryz.prog (layCc0 (WvD d) (chR d) WkD riX) (ccFH (VcD d) (cLb d) (cLv d)) 63 14 [1,2,7] [2] [4] []
theorem cc_rd (d : Nat) (v : VaD) (c : Int) (h : WlD d v.list) (h0 : 0 ≤ c) (h15 : c ≤ 15) (i : Nat) (hi : i < (vals v.list).length) (D : Dfs) (k : Kont) :
 ccTurn d (stL 128 [1,2,7] [.int .i64 c, .ptr (.tmp 2) 0, .int .i64 (i : Nat)] [2] [encVa (canA v)] [] D) k = cond (chkV d ((vals v.list).getD i va0) (c + 1) != 0) (k .ret (stL 128 [4] [.int .i64 (chkV d ((vals v.list).getD i va0) (c + 1))] [] [] [] D)) (k .normal (stL 128 [1,2,7] [.int .i64 c, .ptr (.tmp 2) 0, .int .i64 ((i + 1 : Nat) : Int)] [2] [encVa (canA v)] [] D)) := by
 have hl := WlD_len h
 have hm : (vals v.list).getD i va0 ∈ vals v.list := by rw [List.getD_eq_getElem?_getD, List.getElem?_eq_getElem hi]; exact List.getElem_mem hi
 obtain ⟨w1, w2⟩ := WlD_mem h hm
 refine (cc_step (WvD d) (chR d) WkD riX (VcD d) (cLb d) (cLv d) v.kind v.int v.text v.lf (vals v.list).length (fun i => (vals v.list).getD i va0) v.kf v.keys c i D k).trans ?_
 have e1 : IntKind.i64.wrap ((i : Int) + 1) = ((i + 1 : Nat) : Int) := wrap_add1 (by omega)
 have e2 : IntKind.i64.wrap (c + 1) = c + 1 := wrap_of (by omega) (by omega)
 simp only [e1, e2, dT (show (i : Int) < ((vals v.list).length : Nat) by omega), dT (show (0 : Int) ≤ (i : Int) by omega), Bool.and_self, cond_true, Int.toNat_natCast]
 refine cT (tst_true ⟨⟨WvD_enc w1 w2, by omega, by omega⟩, .refl _, by trivial⟩) ?_
 show cond (chR d (encVa ((vals v.list).getD i va0)) (c + 1) != 0) (k .ret (stL 128 [4] [.int .i64 (chR d (encVa ((vals v.list).getD i va0)) (c + 1))] [] [] [] D)) _ = _
 rw [chR_enc]
 rfl
theorem ccSp_ok (d : Nat) : SpOK (ccTurn d) 128 [1,2,7] [2] [4] [] (ccSp (VcD d) (cLb d) (cLv d)) := mkL_ok fun a h => by
 obtain ⟨c, x⟩ := a
 obtain ⟨⟨v, hx, hw, h15⟩, h0, h16⟩ := h
 simp only at hx hw h15 h0 h16
 subst hx
 have hl := WlD_len hw
 have eL : cLb d (encVa (canA v)) c = (vals v.list).any (fun v => chkV d v (c + 1) != 0) := by unfold cLb; rw [decVa_enc, canA_vals]
 have eV : cLv d (encVa (canA v)) c = chkV d ((vals v.list).getD ((vals v.list).findIdx (fun v => chkV d v (c + 1) != 0)) va0) (c + 1) := by unfold cLv; rw [decVa_enc, canA_vals]
 show ∃ e vs bs H', (∀ k : AExit → List AVal → List (List AVal) → Heap → Ans, cond (cLb d (encVa (canA v)) c) (k .ret [.int .i64 (cLv d (encVa (canA v)) c)] [] []) _ = k e vs bs H') ∧ _
 rw [eL, eV]
 have hf := find_getD (fun v => chkV d v (c + 1) != 0) (vals v.list) va0
 have hN : ∀ D k, ccTurn d (stL 128 [1,2,7] [.int .i64 c, .ptr (.tmp 2) 0, .int .i64 ((vals v.list).length : Nat)] [2] [encVa (canA v)] [] D) k = k (.exit 0) (stL 128 [4] [.undef] [] [] [] D) := fun D k => by
  refine (cc_step (WvD d) (chR d) WkD riX (VcD d) (cLb d) (cLv d) v.kind v.int v.text v.lf (vals v.list).length (fun i => (vals v.list).getD i va0) v.kf v.keys c (vals v.list).length D k).trans ?_
  simp only [dF (show ¬ ((vals v.list).length : Int) < ((vals v.list).length : Nat) by omega), cond_false]
 have hrd : ∀ i, i < (vals v.list).length → ∀ D k, ccTurn d (stL 128 [1,2,7] [.int .i64 c, .ptr (.tmp 2) 0, .int .i64 (i : Nat)] [2] [encVa (canA v)] [] D) k = _ := fun i hi D k => cc_rd d v c hw h0 (by
  rcases h15 with h | h
  · exact h
  · rw [h] at hi; exact absurd hi (Nat.not_lt_zero _)) i hi D k
 cases ha : (vals v.list).any (fun v => chkV d v (c + 1) != 0) with
 | false =>
  rw [ha] at hf
  exact ⟨_, _, _, _, fun k => rfl, none_runs (fun i => [.int .i64 c, .ptr (.tmp 2) 0, .int .i64 (i : Nat)]) [encVa (canA v)] [] _ (vals v.list).length (by simp) hrd hN hf⟩
 | true =>
  rw [ha] at hf
  exact ⟨_, _, _, _, fun k => rfl, find_runs (fun i => [.int .i64 c, .ptr (.tmp 2) 0, .int .i64 (i : Nat)]) [encVa (canA v)] [] _ (vals v.list).length (v1 := fun i => [.int .i64 (chkV d ((vals v.list).getD i va0) (c + 1))]) (b1 := fun _ => []) (H1 := fun _ => []) (by simp) hrd hf⟩
theorem keys_Wk {d : Nat} {v : VaD} (hs : szV (d + 1) v ≤ 16777216) : WkD (encSs v.kf v.keys) := by
 have h1 := wf_keys hs
 refine ⟨by rw [dec_ss]; omega, fun k hk => ?_, (can_ss _ _).symm⟩
 rw [dec_ss] at hk
 unfold szV at hs
 have := sum_mem (fun k : Oc => 16 + 16 * k.length) v.keys k hk
 omega
theorem cc_call {d : Nat} (v : VaD) (c : Int) (hw : wfVal (d + 1) v) (hs : szV (d + 1) v ≤ 16777216) (h0 : 0 ≤ c) (h16 : c ≤ 16) (k : Out → Ans) : iFun Tryz.prog ((layCc (WvD d) (chR d) WkD riX (VcD d) (cLb d) (cLv d)).hd Tryz.prog) (layCc (WvD d) (chR d) WkD riX (VcD d) (cLb d) (cLv d)).fhs 0 63 [.agg (encVa (canA v)), .int .i64 c] [] k = k (.ret (.int .i64 (chkV (d + 1) v c)) []) := by
 have hl := wf_list hw hs
 have hk := keys_Wk hs
 have hln : (vals v.list).length = v.ln := lnV_eq (d := d) hl
 have eR : riX (encSs v.kf v.keys) = riB v.keys := by unfold riX; rw [dec_ss]
 have eL : cLb d (encVa (canA v)) c = (vals v.list).any (fun v => chkV d v (c + 1) != 0) := by unfold cLb; rw [decVa_enc, canA_vals]
 have eV : cLv d (encVa (canA v)) c = chkV d ((vals v.list).getD ((vals v.list).findIdx (fun v => chkV d v (c + 1) != 0)) va0) (c + 1) := by unfold cLv; rw [decVa_enc, canA_vals]
 refine (cc_fun (WvD d) (chR d) WkD riX (VcD d) (cLb d) (cLv d) (canA v) c k).trans ?_
 have eln : ((canA v).ln : Int) = (v.ln : Int) := by show (((vals v.list).length : Nat) : Int) = _; rw [hln]
 have main : ∀ c5 c6 : Bool, c5 = true → (ckMany v = true ∧ c ≠ 16 ∨ v.ln = 0 → c6 = true) →
  (bif bif ckMany v then c == 16 else false then k (Out.ret (AVal.int .i64 42) [])
  else bif decide ((v.text.length : Int) > 4096) then k (Out.ret (AVal.int .i64 5) [])
  else bif bif decide ((v.ln : Int) > 1024) then true else decide ((v.keys.length : Int) > 1024) then k (Out.ret (AVal.int .i64 3) [])
  else bif ckBad v then k (Out.ret (AVal.int .i64 9) [])
  else bif c5 then bif ckKey v then k (Out.ret (AVal.int .i64 9) []) else bif c6 then bif cLb d (encVa (canA v)) c then k (Out.ret (AVal.int .i64 (cLv d (encVa (canA v)) c)) []) else k (Out.ret (AVal.int .i64 0) []) else none else none) = k (.ret (.int .i64 (chkV (d + 1) v c)) []) := by
  intro c5 c6 h5 h6
  rw [h5, eL, eV, chkV_s]
  unfold ckB
  cases h1 : (bif ckMany v then c == 16 else false) with
  | true => rfl
  | false =>
   simp only [cond_false, cond_true]
   cases decide ((v.text.length : Int) > 4096) with
   | true => rfl
   | false =>
    simp only [cond_false]
    cases (bif decide ((v.ln : Int) > 1024) then true else decide ((v.keys.length : Int) > 1024)) with
    | true => rfl
    | false =>
     simp only [cond_false]
     cases h2 : ckBad v with
     | true => rfl
     | false =>
      simp only [cond_false]
      cases ckKey v with
      | true => rfl
      | false =>
       have : c6 = true := h6 (by
        cases hm : ckMany v with
        | true => rw [hm, cond_true] at h1; exact .inl ⟨rfl, by simpa using h1⟩
        | false =>
         refine .inr ?_
         unfold ckBad at h2
         rw [hm] at h2
         revert h2
         cases (bif bif bif decide (v.kind < 0) then true else decide (v.kind > 11) then true else bif v.kind != 3 then v.int != 0 else false then true else bif !bif v.kind == 4 then true else decide (v.kind ≥ 7) then !v.text == [] else false) <;> cases hd : decide ((v.ln : Int) > 0) <;> cases v.kind != 6 <;> cases decide ((v.keys.length : Int) > 0) <;> simp only [cond_true, cond_false, Bool.not_false] <;> intro h
         all_goals first
          | (have := of_decide_eq_false hd; omega)
          | cases h)
       rw [this]
       simp only [cond_false, cond_true]
       cases (vals v.list).any (fun x => chkV d x (c + 1) != 0) <;> rfl
 have eM : (bif v.kind == 5 then true else v.kind == 6) = ckMany v := rfl
 have t5 : tst (WkD (encSs v.kf v.keys) ∧ SubL [encSs v.kf v.keys] [canK (encSs v.kf v.keys)] ∧ ([] : Heap) = []) = true := tst_true ⟨hk, by rw [can_ss]; exact .refl _, rfl⟩
 have := main _ (tst (VcD d c (encVa (canA v)) ∧ SubTL [AVal.int .i64 c, AVal.ptr (Oid.tmp 2) 0, AVal.int .i64 0] [AVal.int .i64 c, AVal.ptr (Oid.tmp 2) 0, AVal.int .i64 0] ∧ [encVa (canA v)] = [encVa (canA v)] ∧ ([] : Heap) = [])) t5 (fun h => tst_true ⟨⟨⟨v, rfl, hl, by
  rcases h with h | h
  · exact .inl (by omega)
  · exact .inr (List.length_eq_zero_iff.1 (by rw [hln]; exact h))⟩, h0, h16⟩, .refl _, rfl, rfl⟩)
 refine Eq.trans ?_ this
 unfold ckKey ckBad
 rw [← eR]
 simp only [eln]
 rfl
theorem layCc_ok {d : Nat} (h : ∀ xs H k out, nsTold (WvD d) (chR d) xs H k = some out → ∃ o, CallOK Tryz.prog 63 xs H o ∧ k o = some out) : (layCc (WvD d) (chR d) WkD riX (VcD d) (cLb d) (cLv d)).OK Tryz.prog :=
 ((Lay.nil_ok.addF h).addF riTold_ok).loop1 (id := 14) (by kernel_rfl) (by kernel_rfl) (by kernel_rfl) (ccSp_ok d)
theorem ccTold_ok : ∀ (d : Nat) xs H k out, nsTold (WvD d) (chR d) xs H k = some out → ∃ o, CallOK Tryz.prog 63 xs H o ∧ k o = some out
 | 0 => mkF_ok fun x h => absurd h.1.2.1 (by unfold wfVal; exact id)
 | d + 1 => mkF_ok fun x h => ⟨_, fun k => rfl, by
  obtain ⟨x, c⟩ := x
  obtain ⟨⟨h1, h2, h3⟩, h4, h5⟩ := h
  have h1 : x = encVa (decVa x) := h1
  simp only at h2 h3 h4 h5
  have key := (layCc_ok (ccTold_ok d)).callF (G := []) rfl (fun k => cc_call (decVa x) c h2 h3 h4 h5 k)
  have key2 := key.subArgs (.cons (canA_sub (wf_list h2 h3)) (.refl _))
  rw [← h1] at key2
  exact key2⟩
def ch0R (d : Nat) (x : List AVal) : Int := chkV d (decVa x) 0
theorem ch0R_enc (d : Nat) (v : VaD) : ch0R d (encVa v) = chkV d v 0 := by unfold ch0R; rw [decVa_enc]
theorem ck4Told_ok (d : Nat) : ∀ xs H k out, ckTold (WvD d) (ch0R d) xs H k = some out → ∃ o, CallOK Tryz.prog 31 xs H o ∧ k o = some out := vrTold_ok (ok := WvD d) (post := fun x k => k (.ret (.int .i64 (ch0R d x)) [])) fun x h => ⟨_, fun k => rfl, by
 obtain ⟨h1, h2, h3⟩ := h
 have h1 : x = encVa (decVa x) := h1
 generalize decVa x = v at h1 h2 h3
 subst h1
 rw [ch0R_enc]
 refine (Lay.nil_ok.addF (ccTold_ok d)).callF (G := []) rfl (fun k => (chk4_fun (WvD d) (chR d) v k).trans ?_)
 refine cT (tst_true ⟨⟨WvD_enc h2 h3, by decide, by decide⟩, .refl _, by trivial⟩) ?_
 show k (.ret (.int .i64 (chR d (encVa v) 0)) []) = _
 rw [chR_enc]⟩
end Go.Mu
namespace Go.Mu
open Go Go.Proofs
noncomputable def pnSp (L : Int → Oc → Oc) (U : Int → Int) : LSp := mkL (fun vs bs H => (aI vs 0, aI vs 1, aS vs 2)) (fun x => 0 ≤ x.2.1 ∧ x.2.1 ≤ 9223372036854775808 ∧ x.2.2.length = 0) (fun x => [.int .i64 x.1, .int .u64 x.2.1, .str x.2.2]) (fun _ => []) (fun _ => [])
 (fun x k => k (.exit 0) [.int .i64 x.1, .int .u64 (U x.2.1), .str (L x.2.1 x.2.2)] [] [])
noncomputable def pnFH (L : Int → Oc → Oc) (U : Int → Int) : FH := .of [(5, loopSpec 38 [0,3,4] [] [0,3,4] [] (pnSp L U))]
theorem pn_step (L : Int → Oc → Oc) (U : Int → Int) (n u : Int) (t : Oc) (D : Dfs) (k : Kont) : lturn Tryz.prog Lay.nil (pnFH L U) 65 5 [0,3,4] [] [0,3,4] [] (stL 38 [0,3,4] [.int .i64 n, .int .u64 u, .str t] [] [] [] D) k = (
 let c0 : Bool := !(u == u && false);
 let n1 : Int := IntKind.i64.wrap (u.tmod 10);
 let n2 : Int := IntKind.i64.wrap (n1 + 1);
 let l3 : Oc := List.drop n1.toNat (List.take n2.toNat ([48, 49, 50, 51, 52, 53, 54, 55, 56, 57] : Oc));
  bif decide (u ≥ 10) then bif c0 then bif decide (0 ≤ n1) && decide (n1 ≤ n2) && decide (n2 ≤ 10) then bif decide (l3.length + t.length ≤ 4611686018427387904) then bif c0 then k AExit.normal (stL 38 [0, 3, 4] [AVal.int .i64 n, AVal.int .u64 (IntKind.u64.wrap (u.tdiv 10)), AVal.str (l3.append t)] [] [] [] D) else none else none else none else none else k (AExit.exit 0) (stL 38 [0, 3, 4] [AVal.int .i64 n, AVal.int .u64 u, AVal.str t] [] [] [] D)) := by kernel_rfl
noncomputable def layPn (L : Int → Oc → Oc) (U : Int → Int) : Lay := Lay.nil.addL 65 (pnFH L U)
theorem pn_fun (L : Int → Oc → Oc) (U : Int → Int) (n : Int) (k : Out → Ans) : iFun Tryz.prog ((layPn L U).hd Tryz.prog) (layPn L U).fhs 0 65 [.int .i64 n] [] k = (
 let c0 : Bool := decide (n < 0);
 let n1 : Int := IntKind.u64.wrap (0 - IntKind.u64.wrap n);
 let n2 : Int := IntKind.i64.wrap (U n1);
 let n3 : Int := IntKind.i64.wrap (n2 + 1);
 let z2 := ([48, 49, 50, 51, 52, 53, 54, 55, 56, 57] : Oc);
 let l4 : Oc := List.drop n2.toNat (List.take n3.toNat z2);
 let l5 : Oc := L n1 [];
 let l6 : Oc := l4.append l5;
 let n7 : Int := IntKind.i64.wrap (U (IntKind.u64.wrap n));
 let n8 : Int := IntKind.i64.wrap (n7 + 1);
 let l9 : Oc := List.drop n7.toNat (List.take n8.toNat z2);
 let l10 : Oc := L (IntKind.u64.wrap n) [];
 let l11 : Oc := l9.append l10;
 let z0 := [AVal.int .i64 n, AVal.int .u64 (IntKind.u64.wrap n), AVal.str []];
 let z1 := [AVal.int .i64 n, AVal.int .u64 n1, AVal.str []];
  bif c0 then bif tst ((0 ≤ n1 ∧ n1 ≤ 9223372036854775808 ∧ 0 = 0) ∧ SubTL z1 z1 ∧ ([] : List (List AVal)) = [] ∧ ([] : Heap) = []) then bif decide (0 ≤ n2) && decide (n2 ≤ n3) && decide (n3 ≤ 10) then bif decide (l4.length + l5.length ≤ 4611686018427387904) then bif c0 then bif decide (1 + l6.length ≤ 4611686018427387904) then k (Out.ret (AVal.str (45 :: l6)) []) else none else k (Out.ret (AVal.str l6) []) else none else none else none else bif tst ((0 ≤ IntKind.u64.wrap n ∧ IntKind.u64.wrap n ≤ 9223372036854775808 ∧ 0 = 0) ∧ SubTL z0 z0 ∧ ([] : List (List AVal)) = [] ∧ ([] : Heap) = []) then bif decide (0 ≤ n7) && decide (n7 ≤ n8) && decide (n8 ≤ 10) then bif decide (l9.length + l10.length ≤ 4611686018427387904) then bif c0 then bif decide (1 + l11.length ≤ 4611686018427387904) then k (Out.ret (AVal.str (45 :: l11)) []) else none else k (Out.ret (AVal.str l11) []) else none else none else none) := by kernel_rfl
def rprTold : FSp := mkFS [.i .i64] (fun xs => decide (-9223372036854775808 ≤ aI xs 0 ∧ aI xs 0 ≤ 9223372036854775807)) (fun xs k => k (.ret (.str (printM (aI xs 0))) []))
noncomputable def strTold (W : List AVal → Prop) (R : List AVal → Oc) : FSp := vrTold W (fun x k => k (.ret (.str (R x)) []))
noncomputable def accSp (V : List AVal → Prop) (L : List AVal → Oc) : LSp := mkL (fun vs bs H => bs.getD 0 []) V (fun x => [.ptr (.tmp 1) 0, .str [], .int .i64 0]) (fun x => [x]) (fun _ => []) (fun x k => k (.exit 1) [.ptr (.tmp 1) 0, .str (L x)] [x] [])
noncomputable def rpvFH (V : List AVal → Prop) (L : List AVal → Oc) : FH := .of [(14, loopSpec 68 [1,3,4] [1] [1,3] [1] (accSp V L))]
noncomputable def layRpv0 (W : List AVal → Prop) (R : List AVal → Oc) : Lay := (Lay.nil.addF 65 rprTold).addF 64 (strTold W R)
theorem rpv_step (W : List AVal → Prop) (R : List AVal → Oc) (V : List AVal → Prop) (L : List AVal → Oc) (kd n : Int) (t : Oc) (f : Bool) (q : Nat) (g : Nat → VaD) (kf : Bool) (ks : List Oc) (o : Oc) (i : Int) (D : Dfs) (k : Kont) : lturn Tryz.prog (layRpv0 W R) (rpvFH V L) 64 14 [1,3,4] [1] [1,3] [1] (stL 68 [1,3,4] [.ptr (.tmp 1) 0, .str o, .int .i64 i] [1] [encVa ⟨kd, n, t, f, q, fun i => encVa (g i), kf, ks⟩] [] D) k = (
 let c0 : Bool := decide (i < (↑q : Int));
 let c1 : Bool := decide (o.length + 1 ≤ 4611686018427387904);
 let c2 : Bool := kd == 6;
 let c3 : Bool := decide (i < (↑ks.length : Int));
 let c4 : Bool := decide (0 ≤ i);
 let c5 : Bool := c4 && c3;
 let l6 : Oc := o.append [32];
 let m7 : Nat := l6.length;
 let l8 : Oc := ks.getD i.toNat [];
 let m9 : Nat := l8.length;
 let l10 : Oc := l6.append l8;
 let c11 : Bool := c4 && c0;
 let c12 : Bool := tst (W (cellsA (AVal.agg [AVal.int .i64 (g i.toNat).kind, AVal.int .i64 (g i.toNat).int, AVal.str (g i.toNat).text, AVal.list (g i.toNat).lf (g i.toNat).ln (g i.toNat).lr, AVal.list (g i.toNat).kf (g i.toNat).keys.length fun (i_1 : Nat) => [AVal.str ((g i.toNat).keys.getD i_1 [])]])) ∧ SubL [AVal.agg [AVal.int .i64 (g i.toNat).kind, AVal.int .i64 (g i.toNat).int, AVal.str (g i.toNat).text, AVal.list (g i.toNat).lf (g i.toNat).ln (g i.toNat).lr, AVal.list (g i.toNat).kf (g i.toNat).keys.length fun (i_1 : Nat) => [AVal.str ((g i.toNat).keys.getD i_1 [])]]] [AVal.agg (cellsA (AVal.agg [AVal.int .i64 (g i.toNat).kind, AVal.int .i64 (g i.toNat).int, AVal.str (g i.toNat).text, AVal.list (g i.toNat).lf (g i.toNat).ln (g i.toNat).lr, AVal.list (g i.toNat).kf (g i.toNat).keys.length fun (i_1 : Nat) => [AVal.str ((g i.toNat).keys.getD i_1 [])]]))] ∧ ([] : Heap) = []);
 let l13 : Oc := l10.append [58];
 let l14 : Oc := R (cellsA (AVal.agg [AVal.int .i64 (g i.toNat).kind, AVal.int .i64 (g i.toNat).int, AVal.str (g i.toNat).text, AVal.list (g i.toNat).lf (g i.toNat).ln (g i.toNat).lr, AVal.list (g i.toNat).kf (g i.toNat).keys.length fun (i_1 : Nat) => [AVal.str ((g i.toNat).keys.getD i_1 [])]]));
 let m15 : Nat := l14.length;
 let l16 : Oc := l6.append [58];
 let l17 : Oc := o.append l8;
 let l18 : Oc := l17.append [58];
 let l19 : Oc := o.append [58];
  bif c0 then bif decide (i > 0) then bif c1 then bif c2 then bif c3 then bif c5 then bif decide (m7 + m9 ≤ 4611686018427387904) then bif decide (l10.length + 1 ≤ 4611686018427387904) then bif c11 then bif c12 then bif decide (l13.length + m15 ≤ 4611686018427387904) then k AExit.normal (stL 68 [1, 3, 4] [AVal.ptr (Oid.tmp 1) 0, AVal.str (l13.append l14), AVal.int .i64 (IntKind.i64.wrap (i + 1))] [1] [[AVal.int .i64 kd, AVal.int .i64 n, AVal.str t, AVal.list f q fun (i : Nat) => encVa (g i), AVal.list kf ks.length fun i => [AVal.str (ks.getD i [])]]] [] D) else none else none else none else none else none else none else bif decide (m7 + 1 ≤ 4611686018427387904) then bif c11 then bif c12 then bif decide (l16.length + m15 ≤ 4611686018427387904) then k AExit.normal (stL 68 [1, 3, 4] [AVal.ptr (Oid.tmp 1) 0, AVal.str (l16.append l14), AVal.int .i64 (IntKind.i64.wrap (i + 1))] [1] [[AVal.int .i64 kd, AVal.int .i64 n, AVal.str t, AVal.list f q fun (i : Nat) => encVa (g i), AVal.list kf ks.length fun i => [AVal.str (ks.getD i [])]]] [] D) else none else none else none else none else bif c11 then bif c12 then bif decide (m7 + m15 ≤ 4611686018427387904) then k AExit.normal (stL 68 [1, 3, 4] [AVal.ptr (Oid.tmp 1) 0, AVal.str (l6.append l14), AVal.int .i64 (IntKind.i64.wrap (i + 1))] [1] [[AVal.int .i64 kd, AVal.int .i64 n, AVal.str t, AVal.list f q fun (i : Nat) => encVa (g i), AVal.list kf ks.length fun i => [AVal.str (ks.getD i [])]]] [] D) else none else none else none else none else bif c2 then bif c3 then bif c5 then bif decide (o.length + m9 ≤ 4611686018427387904) then bif decide (l17.length + 1 ≤ 4611686018427387904) then bif c11 then bif c12 then bif decide (l18.length + m15 ≤ 4611686018427387904) then k AExit.normal (stL 68 [1, 3, 4] [AVal.ptr (Oid.tmp 1) 0, AVal.str (l18.append l14), AVal.int .i64 (IntKind.i64.wrap (i + 1))] [1] [[AVal.int .i64 kd, AVal.int .i64 n, AVal.str t, AVal.list f q fun (i : Nat) => encVa (g i), AVal.list kf ks.length fun i => [AVal.str (ks.getD i [])]]] [] D) else none else none else none else none else none else none else bif c1 then bif c11 then bif c12 then bif decide (l19.length + m15 ≤ 4611686018427387904) then k AExit.normal (stL 68 [1, 3, 4] [AVal.ptr (Oid.tmp 1) 0, AVal.str (l19.append l14), AVal.int .i64 (IntKind.i64.wrap (i + 1))] [1] [[AVal.int .i64 kd, AVal.int .i64 n, AVal.str t, AVal.list f q fun (i : Nat) => encVa (g i), AVal.list kf ks.length fun i => [AVal.str (ks.getD i [])]]] [] D) else none else none else none else none else bif c11 then bif c12 then bif decide (o.length + m15 ≤ 4611686018427387904) then k AExit.normal (stL 68 [1, 3, 4] [AVal.ptr (Oid.tmp 1) 0, AVal.str (o.append l14), AVal.int .i64 (IntKind.i64.wrap (i + 1))] [1] [[AVal.int .i64 kd, AVal.int .i64 n, AVal.str t, AVal.list f q fun (i : Nat) => encVa (g i), AVal.list kf ks.length fun i => [AVal.str (ks.getD i [])]]] [] D) else none else none else none else k (AExit.exit 1) (stL 68 [1, 3] [AVal.ptr (Oid.tmp 1) 0, AVal.str o] [1] [[AVal.int .i64 kd, AVal.int .i64 n, AVal.str t, AVal.list f q fun (i : Nat) => encVa (g i), AVal.list kf ks.length fun i => [AVal.str (ks.getD i [])]]] [] D)) := by kernel_rfl
noncomputable def layRpv (W : List AVal → Prop) (R : List AVal → Oc) (V : List AVal → Prop) (L : List AVal → Oc) : Lay := (layRpv0 W R).addL 64 (rpvFH V L)
theorem rpv_fun (W : List AVal → Prop) (R : List AVal → Oc) (V : List AVal → Prop) (L : List AVal → Oc) (v : VaD) (k : Out → Ans) : iFun Tryz.prog ((layRpv W R V L).hd Tryz.prog) (layRpv W R V L).fhs 0 64 [.agg (encVa v)] [] k = (
 let c0 : Bool := v.kind == 5;
 let l1 : Oc := L [AVal.int .i64 v.kind, AVal.int .i64 v.int, AVal.str v.text, AVal.list v.lf v.ln v.lr, AVal.list v.kf v.keys.length fun i => [AVal.str (v.keys.getD i [])]];
 let c2 : Bool := decide (1 + l1.length ≤ 4611686018427387904);
 let z0 := bif c0 then bif c2 then bif decide ((91 :: l1).length + 1 ≤ 4611686018427387904) then k (Out.ret (AVal.str (91 :: (l1 ++ [93]))) []) else none else none else bif c2 then bif decide ((123 :: l1).length + 1 ≤ 4611686018427387904) then k (Out.ret (AVal.str (123 :: (l1 ++ [125]))) []) else none else none;
 let z1 := [AVal.ptr (Oid.tmp 1) 0, AVal.str [], AVal.int .i64 0];
  bif v.kind == 0 then k (Out.ret (AVal.str [110, 117, 108, 108]) []) else bif v.kind == 1 then k (Out.ret (AVal.str [102, 97, 108, 115, 101]) []) else bif v.kind == 2 then k (Out.ret (AVal.str [116, 114, 117, 101]) []) else bif v.kind == 3 then bif decide (-9223372036854775808 ≤ v.int ∧ v.int ≤ 9223372036854775807) then k (Out.ret (AVal.str (printM v.int)) []) else none else bif c0 then bif c0 then bif tst (V [AVal.int .i64 v.kind, AVal.int .i64 v.int, AVal.str v.text, AVal.list v.lf v.ln v.lr, AVal.list v.kf v.keys.length fun i => [AVal.str (v.keys.getD i [])]] ∧ SubTL z1 z1 ∧ [[AVal.int .i64 v.kind, AVal.int .i64 v.int, AVal.str v.text, AVal.list v.lf v.ln v.lr, AVal.list v.kf v.keys.length fun i => [AVal.str (v.keys.getD i [])]]] = [[AVal.int .i64 v.kind, AVal.int .i64 v.int, AVal.str v.text, AVal.list v.lf v.ln v.lr, AVal.list v.kf v.keys.length fun i => [AVal.str (v.keys.getD i [])]]] ∧ ([] : Heap) = []) then z0 else none else k (Out.ret (AVal.str v.text) []) else bif v.kind == 6 then bif tst (V [AVal.int .i64 v.kind, AVal.int .i64 v.int, AVal.str v.text, AVal.list v.lf v.ln v.lr, AVal.list v.kf v.keys.length fun i => [AVal.str (v.keys.getD i [])]] ∧ SubTL z1 z1 ∧ [[AVal.int .i64 v.kind, AVal.int .i64 v.int, AVal.str v.text, AVal.list v.lf v.ln v.lr, AVal.list v.kf v.keys.length fun i => [AVal.str (v.keys.getD i [])]]] = [[AVal.int .i64 v.kind, AVal.int .i64 v.int, AVal.str v.text, AVal.list v.lf v.ln v.lr, AVal.list v.kf v.keys.length fun i => [AVal.str (v.keys.getD i [])]]] ∧ ([] : Heap) = []) then z0 else none else k (Out.ret (AVal.str v.text) [])) := by kernel_rfl
def txTold (Q : Oc → Oc) (n : Nat) : FSp := mkFS [.s] (fun xs => decide ((aS xs 0).length ≤ n)) (fun xs k => k (.ret (.str (Q (aS xs 0))) []))
noncomputable def layQtK (I : Oc → Oc) : Lay := Lay.nil.addF 26 (txTold I 1099511627776)
theorem rqt_fun (I : Oc → Oc) (s : Oc) (k : Out → Ans) : iFun Tryz.prog ((layQtK I).hd Tryz.prog) (layQtK I).fhs 0 66 [.str s] [] k = (
 bif decide (s.length ≤ 1099511627776) then
 bif decide (1 + (I s).length ≤ 4611686018427387904) then
 bif decide ((34 :: I s).length + 1 ≤ 4611686018427387904) then k (Out.ret (AVal.str (34 :: (I s ++ [34]))) [])
 else none
 else none
 else none) := by kernel_rfl
noncomputable def rltFH (V : List AVal → Prop) (L : List AVal → Oc) : FH := .of [(14, loopSpec 80 [1,3,4] [1] [1,3] [1] (accSp V L))]
noncomputable def layRlt0 (W : List AVal → Prop) (R : List AVal → Oc) (Q : Oc → Oc) : Lay := ((Lay.nil.addF 65 rprTold).addF 66 (txTold Q 4194304)).addF 33 (strTold W R)
theorem rlt_step (W : List AVal → Prop) (R : List AVal → Oc) (Q : Oc → Oc) (V : List AVal → Prop) (L : List AVal → Oc) (kd n : Int) (t : Oc) (f : Bool) (q : Nat) (g : Nat → VaD) (kf : Bool) (ks : List Oc) (o : Oc) (i : Int) (D : Dfs) (k : Kont) : lturn Tryz.prog (layRlt0 W R Q) (rltFH V L) 33 14 [1,3,4] [1] [1,3] [1] (stL 80 [1,3,4] [.ptr (.tmp 1) 0, .str o, .int .i64 i] [1] [encVa ⟨kd, n, t, f, q, fun i => encVa (g i), kf, ks⟩] [] D) k = (
 let c0 : Bool := decide (i < (↑q : Int));
 let c1 : Bool := decide (i < (↑ks.length : Int));
 let c2 : Bool := bif kd == 6 then c1 else false;
 let c3 : Bool := decide (0 ≤ i);
 let c4 : Bool := c3 && c1;
 let l5 : Oc := ks.getD i.toNat [];
 let c6 : Bool := decide (l5.length ≤ 4194304);
 let l7 : Oc := o.append [44];
 let m8 : Nat := l7.length;
 let l9 : Oc := Q l5;
 let m10 : Nat := l9.length;
 let l11 : Oc := l7.append l9;
 let c12 : Bool := c3 && c0;
 let c13 : Bool := tst (W (cellsA (AVal.agg [AVal.int .i64 (g i.toNat).kind, AVal.int .i64 (g i.toNat).int, AVal.str (g i.toNat).text, AVal.list (g i.toNat).lf (g i.toNat).ln (g i.toNat).lr, AVal.list (g i.toNat).kf (g i.toNat).keys.length fun (i_1 : Nat) => [AVal.str ((g i.toNat).keys.getD i_1 [])]])) ∧ SubL [AVal.agg [AVal.int .i64 (g i.toNat).kind, AVal.int .i64 (g i.toNat).int, AVal.str (g i.toNat).text, AVal.list (g i.toNat).lf (g i.toNat).ln (g i.toNat).lr, AVal.list (g i.toNat).kf (g i.toNat).keys.length fun (i_1 : Nat) => [AVal.str ((g i.toNat).keys.getD i_1 [])]]] [AVal.agg (cellsA (AVal.agg [AVal.int .i64 (g i.toNat).kind, AVal.int .i64 (g i.toNat).int, AVal.str (g i.toNat).text, AVal.list (g i.toNat).lf (g i.toNat).ln (g i.toNat).lr, AVal.list (g i.toNat).kf (g i.toNat).keys.length fun (i_1 : Nat) => [AVal.str ((g i.toNat).keys.getD i_1 [])]]))] ∧ ([] : Heap) = []);
 let l14 : Oc := l11.append [58];
 let l15 : Oc := R (cellsA (AVal.agg [AVal.int .i64 (g i.toNat).kind, AVal.int .i64 (g i.toNat).int, AVal.str (g i.toNat).text, AVal.list (g i.toNat).lf (g i.toNat).ln (g i.toNat).lr, AVal.list (g i.toNat).kf (g i.toNat).keys.length fun (i_1 : Nat) => [AVal.str ((g i.toNat).keys.getD i_1 [])]]));
 let m16 : Nat := l15.length;
 let l17 : Oc := o.append l9;
 let l18 : Oc := l17.append [58];
  bif c0 then bif decide (i > 0) then bif decide (o.length + 1 ≤ 4611686018427387904) then bif c2 then bif c4 then bif c6 then bif decide (m8 + m10 ≤ 4611686018427387904) then bif decide (l11.length + 1 ≤ 4611686018427387904) then bif c12 then bif c13 then bif decide (l14.length + m16 ≤ 4611686018427387904) then k AExit.normal (stL 80 [1, 3, 4] [AVal.ptr (Oid.tmp 1) 0, AVal.str (l14.append l15), AVal.int .i64 (IntKind.i64.wrap (i + 1))] [1] [[AVal.int .i64 kd, AVal.int .i64 n, AVal.str t, AVal.list f q fun (i : Nat) => encVa (g i), AVal.list kf ks.length fun i => [AVal.str (ks.getD i [])]]] [] D) else none else none else none else none else none else none else none else bif c12 then bif c13 then bif decide (m8 + m16 ≤ 4611686018427387904) then k AExit.normal (stL 80 [1, 3, 4] [AVal.ptr (Oid.tmp 1) 0, AVal.str (l7.append l15), AVal.int .i64 (IntKind.i64.wrap (i + 1))] [1] [[AVal.int .i64 kd, AVal.int .i64 n, AVal.str t, AVal.list f q fun (i : Nat) => encVa (g i), AVal.list kf ks.length fun i => [AVal.str (ks.getD i [])]]] [] D) else none else none else none else none else bif c2 then bif c4 then bif c6 then bif decide (o.length + m10 ≤ 4611686018427387904) then bif decide (l17.length + 1 ≤ 4611686018427387904) then bif c12 then bif c13 then bif decide (l18.length + m16 ≤ 4611686018427387904) then k AExit.normal (stL 80 [1, 3, 4] [AVal.ptr (Oid.tmp 1) 0, AVal.str (l18.append l15), AVal.int .i64 (IntKind.i64.wrap (i + 1))] [1] [[AVal.int .i64 kd, AVal.int .i64 n, AVal.str t, AVal.list f q fun (i : Nat) => encVa (g i), AVal.list kf ks.length fun i => [AVal.str (ks.getD i [])]]] [] D) else none else none else none else none else none else none else none else bif c12 then bif c13 then bif decide (o.length + m16 ≤ 4611686018427387904) then k AExit.normal (stL 80 [1, 3, 4] [AVal.ptr (Oid.tmp 1) 0, AVal.str (o.append l15), AVal.int .i64 (IntKind.i64.wrap (i + 1))] [1] [[AVal.int .i64 kd, AVal.int .i64 n, AVal.str t, AVal.list f q fun (i : Nat) => encVa (g i), AVal.list kf ks.length fun i => [AVal.str (ks.getD i [])]]] [] D) else none else none else none else k (AExit.exit 1) (stL 80 [1, 3] [AVal.ptr (Oid.tmp 1) 0, AVal.str o] [1] [[AVal.int .i64 kd, AVal.int .i64 n, AVal.str t, AVal.list f q fun (i : Nat) => encVa (g i), AVal.list kf ks.length fun i => [AVal.str (ks.getD i [])]]] [] D)) := by kernel_rfl
noncomputable def layRlt (W : List AVal → Prop) (R : List AVal → Oc) (Q : Oc → Oc) (V : List AVal → Prop) (L : List AVal → Oc) : Lay := (layRlt0 W R Q).addL 33 (rltFH V L)
theorem rlt_fun (W : List AVal → Prop) (R : List AVal → Oc) (Q : Oc → Oc) (V : List AVal → Prop) (L : List AVal → Oc) (v : VaD) (k : Out → Ans) : iFun Tryz.prog ((layRlt W R Q V L).hd Tryz.prog) (layRlt W R Q V L).fhs 0 33 [.agg (encVa v)] [] k = (
 let c0 : Bool := v.kind == 0;
 let c1 : Bool := v.kind == 1;
 let c2 : Bool := v.kind == 2;
 let c3 : Bool := v.kind == 3;
 let c4 : Bool := v.kind == 5;
 let c5 : Bool := v.kind == 6;
 let c6 : Bool := decide (-9223372036854775808 ≤ v.int ∧ v.int ≤ 9223372036854775807);
 let l7 : Oc := L [AVal.int .i64 v.kind, AVal.int .i64 v.int, AVal.str v.text, AVal.list v.lf v.ln v.lr, AVal.list v.kf v.keys.length fun i => [AVal.str (v.keys.getD i [])]];
 let c8 : Bool := decide (1 + l7.length ≤ 4611686018427387904);
 let z0 := bif c4 then bif c8 then bif decide ((91 :: l7).length + 1 ≤ 4611686018427387904) then k (Out.ret (AVal.str (91 :: (l7 ++ [93]))) []) else none else none else bif c8 then bif decide ((123 :: l7).length + 1 ≤ 4611686018427387904) then k (Out.ret (AVal.str (123 :: (l7 ++ [125]))) []) else none else none;
 let z1 := bif c0 then k (Out.ret (AVal.str [110, 117, 108, 108]) []) else bif c1 then k (Out.ret (AVal.str [102, 97, 108, 115, 101]) []) else bif c2 then k (Out.ret (AVal.str [116, 114, 117, 101]) []) else bif c3 then k (Out.ret (AVal.str (printM 0)) []) else bif c4 then bif c4 then none else k (Out.ret (AVal.str []) []) else bif c5 then none else k (Out.ret (AVal.str []) []);
 let z2 := [AVal.ptr (Oid.tmp 1) 0, AVal.str [], AVal.int .i64 0];
 let z3 := bif decide (v.int < 0) then bif c6 then bif decide (1 + (printM v.int).length ≤ 4611686018427387904) then k (Out.ret (AVal.str (32 :: printM v.int)) []) else none else none else bif c6 then k (Out.ret (AVal.str (printM v.int)) []) else none;
 let z4 := bif decide (v.text.length ≤ 4194304) then k (Out.ret (AVal.str (Q v.text)) []) else none;
  bif c0 then bif c0 then z1 else bif c3 then z3 else bif c4 then bif c4 then bif tst (V [AVal.int .i64 v.kind, AVal.int .i64 v.int, AVal.str v.text, AVal.list v.lf v.ln v.lr, AVal.list v.kf v.keys.length fun i => [AVal.str (v.keys.getD i [])]] ∧ SubTL z2 z2 ∧ [[AVal.int .i64 v.kind, AVal.int .i64 v.int, AVal.str v.text, AVal.list v.lf v.ln v.lr, AVal.list v.kf v.keys.length fun i => [AVal.str (v.keys.getD i [])]]] = [[AVal.int .i64 v.kind, AVal.int .i64 v.int, AVal.str v.text, AVal.list v.lf v.ln v.lr, AVal.list v.kf v.keys.length fun i => [AVal.str (v.keys.getD i [])]]] ∧ ([] : Heap) = []) then z0 else none else z4 else bif c5 then bif tst (V [AVal.int .i64 v.kind, AVal.int .i64 v.int, AVal.str v.text, AVal.list v.lf v.ln v.lr, AVal.list v.kf v.keys.length fun i => [AVal.str (v.keys.getD i [])]] ∧ SubTL z2 z2 ∧ [[AVal.int .i64 v.kind, AVal.int .i64 v.int, AVal.str v.text, AVal.list v.lf v.ln v.lr, AVal.list v.kf v.keys.length fun i => [AVal.str (v.keys.getD i [])]]] = [[AVal.int .i64 v.kind, AVal.int .i64 v.int, AVal.str v.text, AVal.list v.lf v.ln v.lr, AVal.list v.kf v.keys.length fun i => [AVal.str (v.keys.getD i [])]]] ∧ ([] : Heap) = []) then z0 else none else z4 else bif c1 then bif c1 then z1 else bif c3 then z3 else bif c4 then bif c4 then bif tst (V [AVal.int .i64 v.kind, AVal.int .i64 v.int, AVal.str v.text, AVal.list v.lf v.ln v.lr, AVal.list v.kf v.keys.length fun i => [AVal.str (v.keys.getD i [])]] ∧ SubTL z2 z2 ∧ [[AVal.int .i64 v.kind, AVal.int .i64 v.int, AVal.str v.text, AVal.list v.lf v.ln v.lr, AVal.list v.kf v.keys.length fun i => [AVal.str (v.keys.getD i [])]]] = [[AVal.int .i64 v.kind, AVal.int .i64 v.int, AVal.str v.text, AVal.list v.lf v.ln v.lr, AVal.list v.kf v.keys.length fun i => [AVal.str (v.keys.getD i [])]]] ∧ ([] : Heap) = []) then z0 else none else z4 else bif c5 then bif tst (V [AVal.int .i64 v.kind, AVal.int .i64 v.int, AVal.str v.text, AVal.list v.lf v.ln v.lr, AVal.list v.kf v.keys.length fun i => [AVal.str (v.keys.getD i [])]] ∧ SubTL z2 z2 ∧ [[AVal.int .i64 v.kind, AVal.int .i64 v.int, AVal.str v.text, AVal.list v.lf v.ln v.lr, AVal.list v.kf v.keys.length fun i => [AVal.str (v.keys.getD i [])]]] = [[AVal.int .i64 v.kind, AVal.int .i64 v.int, AVal.str v.text, AVal.list v.lf v.ln v.lr, AVal.list v.kf v.keys.length fun i => [AVal.str (v.keys.getD i [])]]] ∧ ([] : Heap) = []) then z0 else none else z4 else bif c2 then z1 else bif c3 then z3 else bif c4 then bif c4 then bif tst (V [AVal.int .i64 v.kind, AVal.int .i64 v.int, AVal.str v.text, AVal.list v.lf v.ln v.lr, AVal.list v.kf v.keys.length fun i => [AVal.str (v.keys.getD i [])]] ∧ SubTL z2 z2 ∧ [[AVal.int .i64 v.kind, AVal.int .i64 v.int, AVal.str v.text, AVal.list v.lf v.ln v.lr, AVal.list v.kf v.keys.length fun i => [AVal.str (v.keys.getD i [])]]] = [[AVal.int .i64 v.kind, AVal.int .i64 v.int, AVal.str v.text, AVal.list v.lf v.ln v.lr, AVal.list v.kf v.keys.length fun i => [AVal.str (v.keys.getD i [])]]] ∧ ([] : Heap) = []) then z0 else none else z4 else bif c5 then bif tst (V [AVal.int .i64 v.kind, AVal.int .i64 v.int, AVal.str v.text, AVal.list v.lf v.ln v.lr, AVal.list v.kf v.keys.length fun i => [AVal.str (v.keys.getD i [])]] ∧ SubTL z2 z2 ∧ [[AVal.int .i64 v.kind, AVal.int .i64 v.int, AVal.str v.text, AVal.list v.lf v.ln v.lr, AVal.list v.kf v.keys.length fun i => [AVal.str (v.keys.getD i [])]]] = [[AVal.int .i64 v.kind, AVal.int .i64 v.int, AVal.str v.text, AVal.list v.lf v.ln v.lr, AVal.list v.kf v.keys.length fun i => [AVal.str (v.keys.getD i [])]]] ∧ ([] : Heap) = []) then z0 else none else z4) := by kernel_rfl
def schrTold : FSp := mkFS [.s] (fun xs => decide ((aS xs 0).length ≤ 1099511627776)) (fun xs k => k (.ret (.tuple [.str (schemeM (aS xs 0)).1, .bool (schemeM (aS xs 0)).2]) []))
noncomputable def prcTold (P : Bool → Oc → Oc) : FSp := mkFS [.s, .b] (fun xs => decide ((aS xs 0).length ≤ 1073741824)) (fun xs k => k (.ret (.str (P (aB xs 1) (aS xs 0))) []))
noncomputable def layFl (P : Bool → Oc → Oc) : Lay := (Lay.nil.addF 16 schrTold).addF 25 (prcTold P)
theorem rfl_fun (P : Bool → Oc → Oc) (s : Oc) (k : Out → Ans) : iFun Tryz.prog ((layFl P).hd Tryz.prog) (layFl P).fhs 0 24 [.str s] [] k = (
 let l0 : Oc := (schemeM s).fst;
  bif decide (s.length ≤ 1099511627776) then
  bif
  bif (schemeM s).snd then
  !bif bif l0 == [104, 116, 116, 112] then true else l0 == [104, 116, 116, 112, 115] then true
  else l0 == [109, 97, 105, 108, 116, 111]
  else false then
  k (Out.ret (AVal.str [35, 90, 103, 111, 116, 109, 112, 108, 90]) [])
  else bif decide (s.length ≤ 1073741824) then k (Out.ret (AVal.str (P true s)) []) else none
  else none) := by kernel_rfl
def bTold (B : Oc → Bool) (n : Nat) : FSp := mkFS [.s] (fun xs => decide ((aS xs 0).length ≤ n)) (fun xs k => k (.ret (.bool (B (aS xs 0))) []))
noncomputable def laySt (B : Oc → Bool) : Lay := Lay.nil.addF 19 (bTold B 1099511627776)
theorem rsty_fun (B : Oc → Bool) (s : Oc) (k : Out → Ans) : iFun Tryz.prog ((laySt B).hd Tryz.prog) (laySt B).fhs 0 27 [.str s] [] k = (
 bif decide (s.length ≤ 1099511627776) then
 bif B s then k (Out.ret (AVal.str s) []) else k (Out.ret (AVal.str [90, 103, 111, 116, 109, 112, 108, 90]) [])
 else none) := by kernel_rfl
abbrev TxF := Oc → Oc
noncomputable def layRp (E F I S : TxF) (P : Bool → Oc → Oc) : Lay := ((((Lay.nil.addF 23 (txTold E 1073741824)).addF 24 (txTold F 16777216)).addF 26 (txTold I 16777216)).addF 27 (txTold S 16777216)).addF 25 (prcTold P)
theorem rpl_fun (E F I S : TxF) (P : Bool → Oc → Oc) (e : Int) (s : Oc) (k : Out → Ans) : iFun Tryz.prog ((layRp E F I S P).hd Tryz.prog) (layRp E F I S P).fhs 0 8 [.int .i64 e, .str s] [] k = (
 let c0 : Bool := e == 1;
 let c1 : Bool := decide (s.length ≤ 1073741824);
 let c2 : Bool := decide (s.length ≤ 16777216);
 let c3 : Bool := e == 2;
 let z0 := bif e == 4 then bif c2 then bif decide ((F s).length ≤ 1073741824) then k (Out.ret (AVal.str (E (F s))) []) else none else none else bif e == 5 then bif c1 then bif decide ((P true s).length ≤ 1073741824) then k (Out.ret (AVal.str (E (P true s))) []) else none else none else bif e == 6 then bif c1 then bif decide ((P false s).length ≤ 1073741824) then k (Out.ret (AVal.str (E (P false s))) []) else none else none else bif e == 8 then bif c2 then k (Out.ret (AVal.str (I s)) []) else none else bif e == 10 then bif c2 then bif decide ((I s).length ≤ 1073741824) then k (Out.ret (AVal.str (E (I s))) []) else none else none else bif e == 11 then bif c2 then k (Out.ret (AVal.str (S s)) []) else none else bif e == 12 then bif c2 then bif decide ((S s).length ≤ 1073741824) then k (Out.ret (AVal.str (E (S s))) []) else none else none else k (Out.ret (AVal.str []) []);
 let z1 := Out.ret (AVal.str (E s)) [];
  bif c0 then bif c0 then bif c1 then k z1 else none else z0 else bif c3 then bif c3 then bif c1 then k z1 else none else z0 else bif e == 3 then bif c1 then k z1 else none else z0) := by kernel_rfl
noncomputable def layRt (W : List AVal → Prop) (R : List AVal → Oc) : Lay := Lay.nil.addF 64 (strTold W R)
theorem rto_fun (W : List AVal → Prop) (R : List AVal → Oc) (v : VaD) (k : Out → Ans) : iFun Tryz.prog ((layRt W R).hd Tryz.prog) (layRt W R).fhs 0 34 [.agg (encVa v)] [] k = (
 bif v.kind == 0 then k (Out.ret (AVal.str []) []) else bif tst (W (cellsA (AVal.agg [AVal.int .i64 v.kind, AVal.int .i64 v.int, AVal.str v.text, AVal.list v.lf v.ln v.lr, AVal.list v.kf v.keys.length fun i => [AVal.str (v.keys.getD i [])]])) ∧ SubL [AVal.agg [AVal.int .i64 v.kind, AVal.int .i64 v.int, AVal.str v.text, AVal.list v.lf v.ln v.lr, AVal.list v.kf v.keys.length fun i => [AVal.str (v.keys.getD i [])]]] [AVal.agg (cellsA (AVal.agg [AVal.int .i64 v.kind, AVal.int .i64 v.int, AVal.str v.text, AVal.list v.lf v.ln v.lr, AVal.list v.kf v.keys.length fun i => [AVal.str (v.keys.getD i [])]]))] ∧ ([] : Heap) = []) then k (Out.ret (AVal.str (R (cellsA (AVal.agg [AVal.int .i64 v.kind, AVal.int .i64 v.int, AVal.str v.text, AVal.list v.lf v.ln v.lr, AVal.list v.kf v.keys.length fun i => [AVal.str (v.keys.getD i [])]])))) []) else none) := by kernel_rfl
theorem rsf_fun (e n : Int) (k : Out → Ans) : iFun Tryz.prog (Lay.nil.hd Tryz.prog) Lay.nil.fhs 0 32 [.int .i64 e, .int .i64 n] [] k = (
 k
 (Out.ret
 (AVal.bool
 (bif
 bif
 bif bif bif n == 7 then e == 1 else false then true else bif n == 8 then e == 3 else false then true
 else bif n == 9 then bif e == 4 then true else e == 5 else false then
 true
 else bif n == 10 then bif e == 7 then true else e == 9 else false then
 true
 else bif n == 11 then bif e == 11 then true else e == 12 else false))
  [])) := by kernel_rfl
noncomputable def rpnTold (Q : Int → TxF) : FSp := mkFS [.i .i64, .s] (fun xs => decide ((aS xs 1).length ≤ 16777216)) (fun xs k => k (.ret (.str (Q (aI xs 0) (aS xs 1))) []))
noncomputable def sfbTold (B : Int → Int → Bool) : FSp := mkFS [.i .i64, .i .i64] (fun xs => true) (fun xs k => k (.ret (.bool (B (aI xs 0) (aI xs 1))) []))
noncomputable def layRa (W W2 : List AVal → Prop) (N : List AVal → Int) (B : Int → Int → Bool) (E : TxF) (L T : List AVal → Oc) (Q : Int → TxF) : Lay :=
 (((((Lay.nil.addF 31 (ckTold W N)).addF 32 (sfbTold B)).addF 23 (txTold E 1073741824)).addF 33 (strTold W L)).addF 34 (strTold W2 T)).addF 8 (rpnTold Q)
theorem rap_fun (W W2 : List AVal → Prop) (N : List AVal → Int) (B : Int → Int → Bool) (E : TxF) (L T : List AVal → Oc) (Q : Int → TxF) (e : Int) (v : VaD) (k : Out → Ans) : iFun Tryz.prog ((layRa W W2 N B E L T Q).hd Tryz.prog) (layRa W W2 N B E L T Q).fhs 0 11 [.int .i64 e, .agg (encVa v)] [] k = (
 let c0 : Bool := tst (W (cellsA (AVal.agg [AVal.int .i64 v.kind, AVal.int .i64 v.int, AVal.str v.text, AVal.list v.lf v.ln v.lr, AVal.list v.kf v.keys.length fun i => [AVal.str (v.keys.getD i [])]])) ∧ SubL [AVal.agg [AVal.int .i64 v.kind, AVal.int .i64 v.int, AVal.str v.text, AVal.list v.lf v.ln v.lr, AVal.list v.kf v.keys.length fun i => [AVal.str (v.keys.getD i [])]]] [AVal.agg (cellsA (AVal.agg [AVal.int .i64 v.kind, AVal.int .i64 v.int, AVal.str v.text, AVal.list v.lf v.ln v.lr, AVal.list v.kf v.keys.length fun i => [AVal.str (v.keys.getD i [])]]))] ∧ ([] : Heap) = []);
 let n1 : Int := N (cellsA (AVal.agg [AVal.int .i64 v.kind, AVal.int .i64 v.int, AVal.str v.text, AVal.list v.lf v.ln v.lr, AVal.list v.kf v.keys.length fun i => [AVal.str (v.keys.getD i [])]]));
 let c2 : Bool := e == 9;
 let l3 : Oc := L (cellsA (AVal.agg [AVal.int .i64 v.kind, AVal.int .i64 v.int, AVal.str v.text, AVal.list v.lf v.ln v.lr, AVal.list v.kf v.keys.length fun i => [AVal.str (v.keys.getD i [])]]));
 let l4 : Oc := 32 :: (l3 ++ [32]);
 let l5 : Oc := T (cellsA (AVal.agg [AVal.int .i64 v.kind, AVal.int .i64 v.int, AVal.str v.text, AVal.list v.lf v.ln v.lr, AVal.list v.kf v.keys.length fun i => [AVal.str (v.keys.getD i [])]]));
  bif bif decide (e < 1) then true else decide (e > 12) then k (Out.ret (AVal.tuple [AVal.str [], AVal.int .i64 4]) []) else bif c0 then bif n1 != 0 then k (Out.ret (AVal.tuple [AVal.str [], AVal.int .i64 n1]) []) else bif B e v.kind then bif bif bif bif bif e == 3 then true else e == 4 then true else e == 5 then true else c2 then true else e == 12 then bif decide (v.text.length ≤ 1073741824) then k (Out.ret (AVal.tuple [AVal.str (E v.text), AVal.int .i64 0]) []) else none else k (Out.ret (AVal.tuple [AVal.str v.text, AVal.int .i64 0]) []) else bif c0 then bif decide (1 + l3.length ≤ 4611686018427387904) then bif decide ((32 :: l3).length + 1 ≤ 4611686018427387904) then bif e == 7 then k (Out.ret (AVal.tuple [AVal.str l4, AVal.int .i64 0]) []) else bif c2 then bif decide (l4.length ≤ 1073741824) then k (Out.ret (AVal.tuple [AVal.str (E l4), AVal.int .i64 0]) []) else none else bif tst (W2 (cellsA (AVal.agg [AVal.int .i64 v.kind, AVal.int .i64 v.int, AVal.str v.text, AVal.list v.lf v.ln v.lr, AVal.list v.kf v.keys.length fun i => [AVal.str (v.keys.getD i [])]])) ∧ SubL [AVal.agg [AVal.int .i64 v.kind, AVal.int .i64 v.int, AVal.str v.text, AVal.list v.lf v.ln v.lr, AVal.list v.kf v.keys.length fun i => [AVal.str (v.keys.getD i [])]]] [AVal.agg (cellsA (AVal.agg [AVal.int .i64 v.kind, AVal.int .i64 v.int, AVal.str v.text, AVal.list v.lf v.ln v.lr, AVal.list v.kf v.keys.length fun i => [AVal.str (v.keys.getD i [])]]))] ∧ ([] : Heap) = []) then bif decide (l5.length ≤ 16777216) then k (Out.ret (AVal.tuple [AVal.str (Q e l5), AVal.int .i64 0]) []) else none else none else none else none else none else none) := by kernel_rfl
end Go.Mu
namespace Go.Mu
open Go Go.Proofs
def dgQ (m : Nat) : UInt8 := UInt8.ofNat (48 + m)
def pnF : Nat → Nat → Oc → Nat × Oc
 | 0, u, t => (u, t)
 | f + 1, u, t => if u ≥ 10 then pnF f (u / 10) (dgQ (u % 10) :: t) else (u, t)
def pnL (u : Int) (t : Oc) : Oc := (pnF 19 u.toNat t).2
def pnU (u : Int) : Int := ((pnF 19 u.toNat []).1 : Nat)
theorem pnF_lt : ∀ (f u : Nat) (t : Oc), u < 10 ^ (f + 1) → (pnF f u t).1 < 10
 | 0, u, t, h => by simpa [pnF] using h
 | f + 1, u, t, h => by
  unfold pnF
  split
  · exact pnF_lt f _ _ (by rw [Nat.pow_succ] at h; omega)
  · rename_i h2
    show u < 10
    omega
theorem pnF_digs : ∀ (f u : Nat) (t : Oc), u < 10 ^ (f + 1) → dgQ (pnF f u t).1 :: (pnF f u t).2 = digsF (f + 1) u t
 | 0, u, t, h => by
  have h2 : u / 10 = 0 := by simp at h; omega
  have h3 : u % 10 = u := by simp at h; omega
  rw [digsF, h2, h3]
  rfl
 | f + 1, u, t, h => by
  rw [digsF]
  unfold pnF
  split
  · rename_i h2
    have h3 : (u / 10 == 0) = false := by simp; omega
    rw [h3, cond_false]
    exact pnF_digs f _ _ (by rw [Nat.pow_succ] at h; omega)
  · rename_i h2
    have h3 : (u / 10 == 0) = true := by simp; omega
    have h4 : u % 10 = u := by omega
    rw [h3, cond_true, h4]
    rfl
theorem digsF_more : ∀ (f u : Nat) (t : Oc), u < 10 ^ f → 0 < f → digsF (f + 1) u t = digsF f u t
 | 0, u, t, _, h => absurd h (Nat.lt_irrefl 0)
 | f + 1, u, t, h, _ => by
  rw [digsF]
  conv => rhs; rw [digsF]
  cases h3 : (u / 10 == 0) with
  | true => rfl
  | false =>
   simp only [cond_false]
   have h2 : u / 10 ≠ 0 := by simpa using h3
   have h4 : u / 10 < 10 ^ f := by rw [Nat.pow_succ] at h; omega
   refine digsF_more f _ _ h4 ?_
   cases f with
   | zero => simp at h4; omega
   | succ f => omega
theorem dig_cut : ∀ m : Fin 10, List.drop m.val (List.take (m.val + 1) ([48, 49, 50, 51, 52, 53, 54, 55, 56, 57] : Oc)) = [dgQ m.val] := by decide
noncomputable abbrev pnTurn := lturn Tryz.prog Lay.nil (pnFH pnL pnU) 65 5 [0,3,4] [] [0,3,4] []
theorem pn_rd (n : Int) (u : Nat) (t : Oc) (hu : u ≤ 9223372036854775808) (h10 : 10 ≤ u) (ht : t.length ≤ 100) (D : Dfs) (k : Kont) :
 pnTurn (stL 38 [0,3,4] [.int .i64 n, .int .u64 (u : Nat), .str t] [] [] [] D) k = k .normal (stL 38 [0,3,4] [.int .i64 n, .int .u64 ((u / 10 : Nat) : Int), .str (dgQ (u % 10) :: t)] [] [] [] D) := by
 refine (pn_step pnL pnU n (u : Nat) t D k).trans ?_
 have m1 : ((u : Nat) : Int).tmod 10 = ((u % 10 : Nat) : Int) := rfl
 have m2 : ((u : Nat) : Int).tdiv 10 = ((u / 10 : Nat) : Int) := rfl
 have w1 : IntKind.i64.wrap ((u % 10 : Nat) : Int) = ((u % 10 : Nat) : Int) := wrap_of (by omega) (by omega)
 have w2 : IntKind.i64.wrap (((u % 10 : Nat) : Int) + 1) = ((u % 10 + 1 : Nat) : Int) := wrap_add1 (by omega)
 have w3 : IntKind.u64.wrap ((u / 10 : Nat) : Int) = ((u / 10 : Nat) : Int) := wrapU (by omega) (by omega)
 have hd := dig_cut ⟨u % 10, Nat.mod_lt _ (by decide)⟩
 simp only at hd
 simp only [m1, m2, w1, w2, w3, Int.toNat_natCast, hd, dT (show ((u : Nat) : Int) ≥ 10 by omega), dT (show (0 : Int) ≤ ((u % 10 : Nat) : Int) by omega), dT (show ((u % 10 : Nat) : Int) ≤ ((u % 10 + 1 : Nat) : Int) by omega), dT (show ((u % 10 + 1 : Nat) : Int) ≤ 10 by omega), Bool.and_false, Bool.not_false, Bool.and_self, cond_true, List.length_singleton, dT (show 1 + t.length ≤ 4611686018427387904 by omega)]
 rfl
theorem pn_stop (n : Int) (u : Nat) (t : Oc) (h10 : u < 10) (D : Dfs) (k : Kont) :
 pnTurn (stL 38 [0,3,4] [.int .i64 n, .int .u64 (u : Nat), .str t] [] [] [] D) k = k (.exit 0) (stL 38 [0,3,4] [.int .i64 n, .int .u64 (u : Nat), .str t] [] [] [] D) := by
 refine (pn_step pnL pnU n (u : Nat) t D k).trans ?_
 simp only [dF (show ¬ ((u : Nat) : Int) ≥ 10 by omega), cond_false]
theorem pn_go (n : Int) : ∀ (f u : Nat) (t : Oc), u ≤ 9223372036854775808 → u < 10 ^ (f + 1) → t.length + f ≤ 100 →
 LoopRuns pnTurn 38 [0,3,4] [] [0,3,4] [] [.int .i64 n, .int .u64 (u : Nat), .str t] [] [] (.exit 0) [.int .i64 n, .int .u64 ((pnF f u t).1 : Nat), .str (pnF f u t).2] [] []
 | 0, u, t, _, h, _ => .stop (by simp) (fun D k => pn_stop n u t (by simpa using h) D k)
 | f + 1, u, t, hu, h, hl => by
  unfold pnF
  by_cases h10 : u ≥ 10
  · rw [if_pos h10]
    exact .step (fun D k => pn_rd n u t hu h10 (by omega) D k) (pn_go n f (u / 10) _ (by omega) (by rw [Nat.pow_succ] at h; omega) (by simp only [List.length_cons]; omega))
  · rw [if_neg h10]
    exact .stop (by simp) (fun D k => pn_stop n u t (by omega) D k)
theorem p63 {u : Nat} (h : u ≤ 9223372036854775808) : u < 10 ^ 20 := Nat.lt_of_le_of_lt h (by decide)
theorem p63b {u : Nat} (h : u ≤ 9223372036854775808) : u < 10 ^ 19 := Nat.lt_of_le_of_lt h (by decide)
theorem pnSp_ok : SpOK pnTurn 38 [0,3,4] [] [0,3,4] [] (pnSp pnL pnU) := mkL_ok fun x h => by
 obtain ⟨n, u, t⟩ := x
 obtain ⟨h0, h1, h2⟩ := h
 simp only at h0 h1 h2
 obtain rfl := List.length_eq_zero_iff.1 h2
 obtain ⟨u, rfl⟩ : ∃ m : Nat, u = m := ⟨u.toNat, by omega⟩
 refine ⟨_, _, _, _, fun k => rfl, ?_⟩
 exact pn_go n 19 u [] (by omega) (p63 (by omega)) (by decide)
theorem layPn_ok : (layPn pnL pnU).OK Tryz.prog := Lay.nil_ok.loop1 (id := 5) (by kernel_rfl) (by kernel_rfl) (by kernel_rfl) pnSp_ok
theorem digsF_le (f u : Nat) : (digsF f u []).length ≤ f := by
 have key : ∀ (f u : Nat) (t : Oc), (digsF f u t).length ≤ t.length + f := by
  intro f
  induction f with
  | zero => intro u t; exact Nat.le_refl _
  | succ f ih =>
   intro u t
   rw [digsF]
   cases u / 10 == 0 with
   | true => simp
   | false =>
    have := ih (u / 10) (UInt8.ofNat (48 + u % 10) :: t)
    simp only [List.length_cons] at this
    simp only [cond_false]
    omega
 have := key f u []
 simpa using this
theorem rpr_ok (n : Int) (h1 : -9223372036854775808 ≤ n) (h2 : n ≤ 9223372036854775807) : CallOK Tryz.prog 65 [.int .i64 n] [] (.ret (.str (printM n)) []) := by
 refine layPn_ok.callF (G := []) rfl (fun k => (pn_fun pnL pnU n k).trans ?_)
 have nat : ∀ m : Nat, m ≤ 9223372036854775808 → ∀ w : Int, IntKind.i64.wrap (pnU (m : Nat)) = ((pnF 19 m []).1 : Nat) ∧ List.drop (pnF 19 m []).1 (List.take ((pnF 19 m []).1 + 1) ([48, 49, 50, 51, 52, 53, 54, 55, 56, 57] : Oc)) = [dgQ (pnF 19 m []).1] ∧ ([dgQ (pnF 19 m []).1].append (pnL (m : Nat) []) = digsF 19 m []) ∧ (pnF 19 m []).1 < 10 := fun m hm w => by
  have hlt := pnF_lt 19 m [] (p63 hm)
  have hc := dig_cut ⟨(pnF 19 m []).1, hlt⟩
  refine ⟨wrap_of (by unfold pnU; rw [Int.toNat_natCast]; omega) (by unfold pnU; rw [Int.toNat_natCast]; omega), hc, ?_, hlt⟩
  have := pnF_digs 19 m [] (p63 hm)
  rw [digsF_more 19 m [] (p63b hm) (by decide)] at this
  unfold pnL
  rw [Int.toNat_natCast]
  exact this
 have fin : ∀ m : Nat, m ≤ 9223372036854775808 → ∀ kk : Oc → Ans, (bif decide (0 ≤ IntKind.i64.wrap (pnU (m : Nat))) && decide (IntKind.i64.wrap (pnU (m : Nat)) ≤ IntKind.i64.wrap (IntKind.i64.wrap (pnU (m : Nat)) + 1)) && decide (IntKind.i64.wrap (IntKind.i64.wrap (pnU (m : Nat)) + 1) ≤ 10) then
  bif decide ((List.drop (IntKind.i64.wrap (pnU (m : Nat))).toNat (List.take (IntKind.i64.wrap (IntKind.i64.wrap (pnU (m : Nat)) + 1)).toNat ([48, 49, 50, 51, 52, 53, 54, 55, 56, 57] : Oc))).length + (pnL (m : Nat) []).length ≤ 4611686018427387904) then
   kk ((List.drop (IntKind.i64.wrap (pnU (m : Nat))).toNat (List.take (IntKind.i64.wrap (IntKind.i64.wrap (pnU (m : Nat)) + 1)).toNat ([48, 49, 50, 51, 52, 53, 54, 55, 56, 57] : Oc))).append (pnL (m : Nat) [])) else none else none) = kk (digsF 19 m []) := fun m hm kk => by
  obtain ⟨e1, e2, e3, e4⟩ := nat m hm 0
  have e5 : IntKind.i64.wrap ((((pnF 19 m []).1 : Nat) : Int) + 1) = (((pnF 19 m []).1 + 1 : Nat) : Int) := wrap_add1 (by omega)
  have e6 : ([dgQ (pnF 19 m []).1] : Oc).length + (pnL (m : Nat) []).length ≤ 4611686018427387904 := by
   have h1 : ([dgQ (pnF 19 m []).1].append (pnL (m : Nat) [])).length = ([dgQ (pnF 19 m []).1] : Oc).length + (pnL (m : Nat) []).length := List.length_append
   have h2 := digsF_le 19 m
   rw [← e3, h1] at h2
   omega
  rw [e1, e5]
  simp only [Int.toNat_natCast, e2, e3, dT e6, dT (show (0 : Int) ≤ (((pnF 19 m []).1 : Nat) : Int) by omega), dT (show (((pnF 19 m []).1 : Nat) : Int) ≤ (((pnF 19 m []).1 + 1 : Nat) : Int) by omega), dT (show (((pnF 19 m []).1 + 1 : Nat) : Int) ≤ 10 by omega), Bool.and_self, cond_true]
 have hw : IntKind.u64.wrap n = n % 18446744073709551616 := by simp [IntKind.wrap, IntKind.signed, IntKind.bits]
 have hw2 : IntKind.u64.wrap (0 - IntKind.u64.wrap n) = (0 - n % 18446744073709551616) % 18446744073709551616 := by rw [hw]; simp [IntKind.wrap, IntKind.signed, IntKind.bits]
 by_cases hn : n < 0
 · have e : IntKind.u64.wrap (0 - IntKind.u64.wrap n) = ((n.natAbs : Nat) : Int) := by rw [hw2]; omega
   have hm : n.natAbs ≤ 9223372036854775808 := by omega
   rw [dT hn]
   simp only [cond_true, e]
   refine cT (tst_true ⟨⟨by omega, by omega, by first | rfl | trivial⟩, .refl _, by first | exact ⟨rfl, rfl⟩ | trivial⟩) ?_
   refine (fin n.natAbs hm (fun x => bif decide (1 + x.length ≤ 4611686018427387904) then k (Out.ret (AVal.str (45 :: x)) []) else none)).trans ?_
   have h2 := digsF_le 19 n.natAbs
   rw [dT (show 1 + (digsF 19 n.natAbs []).length ≤ 4611686018427387904 by omega), cond_true]
   unfold printM
   rw [dT hn, cond_true]
 · have e : IntKind.u64.wrap n = ((n.natAbs : Nat) : Int) := by rw [hw]; omega
   have hm : n.natAbs ≤ 9223372036854775808 := by omega
   rw [dF hn]
   simp only [cond_false, e]
   refine cT (tst_true ⟨⟨by omega, by omega, by first | rfl | trivial⟩, .refl _, by first | exact ⟨rfl, rfl⟩ | trivial⟩) ?_
   refine (fin n.natAbs hm (fun x => k (Out.ret (AVal.str x) []))).trans ?_
   unfold printM
   rw [dF hn, cond_false]
theorem rprTold_ok : ∀ xs H k out, rprTold xs H k = some out → ∃ o, CallOK Tryz.prog 65 xs H o ∧ k o = some out := mkFS_ok fun ys xs e h => by
 obtain ⟨n, rfl⟩ : ∃ n, xs = [.int .i64 n] := ⟨_, e⟩
 have h2 : -9223372036854775808 ≤ n ∧ n ≤ 9223372036854775807 := of_decide_eq_true h
 exact ⟨_, fun k => rfl, rpr_ok n h2.1 h2.2⟩
end Go.Mu
namespace Go.Mu
open Go Go.Proofs
theorem qtake_sum {α : Type} (f : α → Nat) (l : List α) (d : α) (i : Nat) (h : i < l.length) : ((l.take (i + 1)).map f).sum = ((l.take i).map f).sum + f (l.getD i d) := by
 rw [List.take_succ_eq_append_getElem h, List.map_append, List.sum_append, List.getD_eq_getElem?_getD, List.getElem?_eq_getElem h]; simp
theorem qtake_le {α : Type} (f : α → Nat) : ∀ (l : List α) (i : Nat), ((l.take i).map f).sum ≤ (l.map f).sum
 | [], i => by simp
 | a :: l, 0 => by simp
 | a :: l, i + 1 => by
  have := qtake_le f l i
  simp only [List.take_succ_cons, List.map_cons, List.sum_cons]
  omega
abbrev kSum (ks : List Oc) : Nat := (ks.map (fun k => 16 + 16 * k.length)).sum
theorem items_len (f : Nat → Oc) (S : VaD → Nat) (ks : List Oc) (l : List VaD) (h : ∀ i, i < l.length → (f i).length ≤ S (l.getD i va0) + (if i < ks.length then 16 + 16 * (ks.getD i []).length else 0)) : ∀ i, i ≤ l.length →
 ((List.range i).flatMap f).length ≤ ((l.take i).map S).sum + kSum (ks.take i) := by
 intro i
 induction i with
 | zero => intro _; simp
 | succ i ih =>
  intro hi
  have ih := ih (by omega)
  have h1 := h i (by omega)
  rw [List.range_succ, List.flatMap_append, List.length_append, qtake_sum S l va0 i (by omega)]
  have e : ([i].flatMap f) = f i := by simp
  rw [e]
  unfold kSum at *
  by_cases hk : i < ks.length
  · rw [qtake_sum (fun k : Oc => 16 + 16 * k.length) ks [] i hk]
    rw [if_pos hk] at h1
    omega
  · rw [List.take_of_length_le (by omega : ks.length ≤ i + 1)]
    rw [List.take_of_length_le (by omega : ks.length ≤ i)] at ih
    rw [if_neg hk] at h1
    omega
theorem items_all (f : Nat → Oc) (S : VaD → Nat) (ks : List Oc) (l : List VaD) (h : ∀ i, i < l.length → (f i).length ≤ S (l.getD i va0) + (if i < ks.length then 16 + 16 * (ks.getD i []).length else 0)) (i : Nat) (hi : i ≤ l.length) :
 ((List.range i).flatMap f).length ≤ (l.map S).sum + kSum ks := by
 have h1 := items_len f S ks l h i hi
 have h2 := qtake_le S l i
 have h3 := qtake_le (fun k : Oc => 16 + 16 * k.length) ks i
 unfold kSum at *
 omega
theorem printM_le (n : Int) : (printM n).length ≤ 20 := by
 unfold printM
 have := digsF_le 19 n.natAbs
 cases decide (n < 0)
 · simp only [cond_false]; omega
 · simp only [cond_true, List.length_cons]; omega
theorem quoQ_len (s : Oc) : (quoQ s).length ≤ 12 * s.length + 2 := by
 have := inP_len s
 unfold quoQ
 simp only [List.length_cons, List.length_append, List.length_nil]
 omega
theorem itmQ_len (R : VaD → Oc) (S : VaD → Nat) (hR : ∀ v, (R v).length + 8 ≤ S v) (v : VaD) (l : List VaD) (i : Nat) (hi : i < l.length) : (itmQ R v l i).length ≤ S (l.getD i va0) + (if i < v.keys.length then 16 + 16 * (v.keys.getD i []).length else 0) := by
 have h1 := hR (l.getD i va0)
 have h2 := quoQ_len (v.keys.getD i [])
 have h0 : (if 0 < i then ([44] : Oc) else []).length ≤ 1 := by split <;> simp
 unfold itmQ keyQ
 rw [List.length_append, List.length_append]
 by_cases hk : v.kind = 6 ∧ i < v.keys.length
 · rw [if_pos hk, if_pos hk.2, List.length_append, List.length_singleton]
   omega
 · rw [if_neg hk]
   simp only [List.length_nil]
   omega
def itmP (R : VaD → Oc) (v : VaD) (l : List VaD) (i : Nat) : Oc := (if 0 < i then [32] else []) ++ ((if v.kind = 6 then (if i < v.keys.length then v.keys.getD i [] else []) ++ [58] else []) ++ R (l.getD i va0))
def itmsP (R : VaD → Oc) (v : VaD) (l : List VaD) : Oc := (List.range l.length).flatMap (itmP R v l)
def prQ : Nat → VaD → Oc
 | 0, _ => []
 | d + 1, v => if v.kind = 0 then [110, 117, 108, 108] else if v.kind = 1 then [102, 97, 108, 115, 101] else if v.kind = 2 then [116, 114, 117, 101] else if v.kind = 3 then printM v.int
  else if v.kind = 5 then 91 :: (itmsP (prQ d) v (vals v.list) ++ [93]) else if v.kind = 6 then 123 :: (itmsP (prQ d) v (vals v.list) ++ [125]) else v.text
theorem itmP_len (R : VaD → Oc) (S : VaD → Nat) (hR : ∀ v, (R v).length + 8 ≤ S v) (v : VaD) (l : List VaD) (i : Nat) (hi : i < l.length) : (itmP R v l i).length ≤ S (l.getD i va0) + (if i < v.keys.length then 16 + 16 * (v.keys.getD i []).length else 0) := by
 have h1 := hR (l.getD i va0)
 have h0 : (if 0 < i then ([32] : Oc) else []).length ≤ 1 := by split <;> simp
 unfold itmP
 rw [List.length_append, List.length_append]
 by_cases hk : v.kind = 6
 · rw [if_pos hk, List.length_append, List.length_singleton]
   by_cases h6 : i < v.keys.length
   · rw [if_pos h6, if_pos h6]; omega
   · rw [if_neg h6, if_neg h6]; simp only [List.length_nil]; omega
 · rw [if_neg hk]
   simp only [List.length_nil]
   omega
theorem litQ_len : ∀ (d : Nat) (v : VaD), (litQ d v).length + 8 ≤ szV d v
 | 0, v => by unfold litQ szV; simp
 | d + 1, v => by
  have h1 := items_all (itmQ (litQ d) v (vals v.list)) (szV d) v.keys (vals v.list) (fun i hi => itmQ_len (litQ d) (szV d) (litQ_len d) v _ i hi) (vals v.list).length (Nat.le_refl _)
  have h2 := quoQ_len v.text
  have h3 := printM_le v.int
  have h4 : (itmsQ (litQ d) v (vals v.list)).length ≤ ((vals v.list).map (szV d)).sum + kSum v.keys := h1
  unfold kSum at h4
  unfold litQ szV
  repeat' split
  all_goals first
   | (simp only [List.length_cons, List.length_nil]; omega)
   | (simp only [List.length_append, List.length_cons, List.length_nil]; omega)
   | omega
theorem prQ_len : ∀ (d : Nat) (v : VaD), (prQ d v).length + 8 ≤ szV d v
 | 0, v => by unfold prQ szV; simp
 | d + 1, v => by
  have h1 := items_all (itmP (prQ d) v (vals v.list)) (szV d) v.keys (vals v.list) (fun i hi => itmP_len (prQ d) (szV d) (prQ_len d) v _ i hi) (vals v.list).length (Nat.le_refl _)
  have h3 := printM_le v.int
  have h4 : (itmsP (prQ d) v (vals v.list)).length ≤ ((vals v.list).map (szV d)).sum + kSum v.keys := h1
  unfold kSum at h4
  unfold prQ szV
  repeat' split
  all_goals first
   | (simp only [List.length_cons, List.length_nil]; omega)
   | (simp only [List.length_append, List.length_cons, List.length_nil]; omega)
   | omega
theorem layQtK_ok : (layQtK inP).OK Tryz.prog := Lay.nil_ok.addF (mkFS_ok fun ys xs e h => by
 obtain ⟨s, rfl⟩ : ∃ s, xs = [.str s] := ⟨_, e⟩
 exact ⟨_, fun k => rfl, in_ok s (of_decide_eq_true h)⟩)
theorem quoQTold_ok : ∀ xs H k out, txTold quoQ 4194304 xs H k = some out → ∃ o, CallOK Tryz.prog 66 xs H o ∧ k o = some out := mkFS_ok fun ys xs e h => by
 obtain ⟨s, rfl⟩ : ∃ s, xs = [.str s] := ⟨_, e⟩
 have h : s.length ≤ 4194304 := of_decide_eq_true h
 have hl := inP_len s
 refine ⟨_, fun k => rfl, layQtK_ok.callF (G := []) rfl (fun k => (rqt_fun inP s k).trans ?_)⟩
 have e1 : (34 :: inP s : Oc).length = (inP s).length + 1 := rfl
 simp only [e1, dT (show s.length ≤ 1099511627776 by omega), dT (show 1 + (inP s).length ≤ 4611686018427387904 by omega), dT (show (inP s).length + 1 + 1 ≤ 4611686018427387904 by omega), cond_true]
 rfl
def rltR (d : Nat) (x : List AVal) : Oc := litQ d (decVa x)
theorem rltR_enc (d : Nat) (v : VaD) : rltR d (encVa v) = litQ d v := by unfold rltR; rw [decVa_enc]
def rltL (d : Nat) (x : List AVal) : Oc := itmsQ (litQ d) (decVa x) (vals (decVa x).list)
def PqD (d : Nat) (x : List AVal) : Prop := ∃ v : VaD, x = encVa (canA v) ∧ WlD d v.list ∧ (∀ i, (v.keys.getD i []).length ≤ 1048576) ∧ kSum v.keys ≤ 16777216
theorem acc_len (f : Nat → Oc) (d : Nat) (v : VaD) (hw : WlD d v.list) (hk : kSum v.keys ≤ 16777216) (h : ∀ i, i < (vals v.list).length → (f i).length ≤ szV d ((vals v.list).getD i va0) + (if i < v.keys.length then 16 + 16 * (v.keys.getD i []).length else 0)) (i : Nat) (hi : i ≤ (vals v.list).length) :
 ((List.range i).flatMap f).length ≤ 33554432 := by
 have := items_all f (szV d) v.keys (vals v.list) h i hi
 have := hw.2.2
 omega
theorem acc_snoc (f : Nat → Oc) (i : Nat) : (List.range (i + 1)).flatMap f = (List.range i).flatMap f ++ f i := by
 rw [List.range_succ, List.flatMap_append]; simp
noncomputable abbrev rltTurn (d : Nat) := lturn Tryz.prog (layRlt0 (WvD d) (rltR d) quoQ) (rltFH (PqD d) (rltL d)) 33 14 [1,3,4] [1] [1,3] [1]
theorem rlt_rd (d : Nat) (v : VaD) (h : WlD d v.list) (hk : ∀ i, (v.keys.getD i []).length ≤ 1048576) (o : Oc) (ho : o.length ≤ 33554432) (i : Nat) (hi : i < (vals v.list).length) (D : Dfs) (k : Kont) :
 rltTurn d (stL 80 [1,3,4] [.ptr (.tmp 1) 0, .str o, .int .i64 (i : Nat)] [1] [encVa (canA v)] [] D) k = k .normal (stL 80 [1,3,4] [.ptr (.tmp 1) 0, .str (o ++ itmQ (litQ d) v (vals v.list) i), .int .i64 ((i + 1 : Nat) : Int)] [1] [encVa (canA v)] [] D) := by
 have hl := WlD_len h
 have hm : (vals v.list).getD i va0 ∈ vals v.list := by rw [List.getD_eq_getElem?_getD, List.getElem?_eq_getElem hi]; exact List.getElem_mem hi
 obtain ⟨w1, w2⟩ := WlD_mem h hm
 have hR : rltR d (encVa ((vals v.list).getD i va0)) = litQ d ((vals v.list).getD i va0) := rltR_enc _ _
 have hRl := litQ_len d ((vals v.list).getD i va0)
 have hq := quoQ_len (v.keys.getD i [])
 have hki := hk i
 refine (rlt_step (WvD d) (rltR d) quoQ (PqD d) (rltL d) v.kind v.int v.text v.lf (vals v.list).length (fun i => (vals v.list).getD i va0) v.kf v.keys o i D k).trans ?_
 have e1 : IntKind.i64.wrap ((i : Int) + 1) = ((i + 1 : Nat) : Int) := wrap_add1 (by omega)
 have t13 : tst (WvD d (encVa ((vals v.list).getD i va0)) ∧ SubL [.agg (encVa ((vals v.list).getD i va0))] [.agg (encVa ((vals v.list).getD i va0))] ∧ True) = true := tst_true ⟨WvD_enc w1 w2, .refl _, trivial⟩
 have aE : ∀ a b : Oc, a.append b = a ++ b := fun a b => rfl
 have cE : cellsA (.agg (encVa ((vals v.list).getD i va0))) = encVa ((vals v.list).getD i va0) := rfl
 have vE : [AVal.int .i64 ((vals v.list).getD i va0).kind, AVal.int .i64 ((vals v.list).getD i va0).int, AVal.str ((vals v.list).getD i va0).text, AVal.list ((vals v.list).getD i va0).lf ((vals v.list).getD i va0).ln ((vals v.list).getD i va0).lr, AVal.list ((vals v.list).getD i va0).kf ((vals v.list).getD i va0).keys.length fun (j : Nat) => [AVal.str (((vals v.list).getD i va0).keys.getD j [])]] = encVa ((vals v.list).getD i va0) := rfl
 simp only [e1, Int.toNat_natCast, vE, cE, hR, t13, aE, dT (show (i : Int) < ((vals v.list).length : Nat) by omega), dT (show (0 : Int) ≤ (i : Int) by omega), Bool.and_self, Bool.true_and, cond_true, List.length_append, List.length_singleton]
 unfold itmQ keyQ
 have fin : ∀ o2 : Oc, o2.length ≤ 33554433 → (bif bif v.kind == 6 then decide ((i : Int) < (v.keys.length : Int)) else false then
  bif decide ((i : Int) < (v.keys.length : Int)) then bif decide ((v.keys.getD i []).length ≤ 4194304) then bif decide (o2.length + (quoQ (v.keys.getD i [])).length ≤ 4611686018427387904) then bif decide (o2.length + (quoQ (v.keys.getD i [])).length + 1 ≤ 4611686018427387904) then bif decide (o2.length + (quoQ (v.keys.getD i [])).length + 1 + (litQ d ((vals v.list).getD i va0)).length ≤ 4611686018427387904) then
   k AExit.normal (stL 80 [1, 3, 4] [AVal.ptr (Oid.tmp 1) 0, AVal.str (o2 ++ quoQ (v.keys.getD i []) ++ [58] ++ litQ d ((vals v.list).getD i va0)), AVal.int .i64 ((i + 1 : Nat) : Int)] [1] [encVa (canA v)] [] D) else none else none else none else none else none
  else bif decide (o2.length + (litQ d ((vals v.list).getD i va0)).length ≤ 4611686018427387904) then
   k AExit.normal (stL 80 [1, 3, 4] [AVal.ptr (Oid.tmp 1) 0, AVal.str (o2 ++ litQ d ((vals v.list).getD i va0)), AVal.int .i64 ((i + 1 : Nat) : Int)] [1] [encVa (canA v)] [] D) else none) =
  k .normal (stL 80 [1,3,4] [.ptr (.tmp 1) 0, .str (o2 ++ ((if v.kind = 6 ∧ i < v.keys.length then quoQ (v.keys.getD i []) ++ [58] else []) ++ litQ d ((vals v.list).getD i va0))), .int .i64 ((i + 1 : Nat) : Int)] [1] [encVa (canA v)] [] D) := fun o2 h2 => by
  by_cases h6 : v.kind = 6 ∧ i < v.keys.length
  · have b6 : (v.kind == 6) = true := by simpa using h6.1
    rw [if_pos h6, b6, dT (show (i : Int) < (v.keys.length : Int) by omega), dT (show (v.keys.getD i []).length ≤ 4194304 by omega), dT (show o2.length + (quoQ (v.keys.getD i [])).length ≤ 4611686018427387904 by omega), dT (show o2.length + (quoQ (v.keys.getD i [])).length + 1 ≤ 4611686018427387904 by omega), dT (show o2.length + (quoQ (v.keys.getD i [])).length + 1 + (litQ d ((vals v.list).getD i va0)).length ≤ 4611686018427387904 by omega)]
    simp only [cond_true, List.append_assoc]
  · have b6 : (bif v.kind == 6 then decide ((i : Int) < (v.keys.length : Int)) else false) = false := by
     by_cases h : v.kind = 6
     · rw [dF (show ¬ (i : Int) < (v.keys.length : Int) from fun hx => h6 ⟨h, by omega⟩)]
       cases v.kind == 6 <;> rfl
     · rw [beq_false_of_ne h]; rfl
    rw [if_neg h6, b6, cond_false, dT (show o2.length + (litQ d ((vals v.list).getD i va0)).length ≤ 4611686018427387904 by omega)]
    rfl
 by_cases h0 : (i : Int) > 0
 · have := fin (o ++ [44]) (by simp only [List.length_append, List.length_singleton]; omega)
   simp only [List.length_append, List.length_singleton] at this
   rw [dT h0, if_pos (show 0 < i by omega)]
   simp only [cond_true, dT (show o.length + 1 ≤ 4611686018427387904 by omega), ← List.append_assoc] at this ⊢
   exact this
 · have := fin o (by omega)
   rw [dF h0, if_neg (show ¬ 0 < i by omega)]
   simp only [cond_false, List.nil_append] at this ⊢
   exact this
theorem rltSp_ok (d : Nat) : SpOK (rltTurn d) 80 [1,3,4] [1] [1,3] [1] (accSp (PqD d) (rltL d)) := mkL_ok fun x h => by
 obtain ⟨v, rfl, hw, hk, hs⟩ := h
 refine ⟨_, _, _, _, fun k => rfl, ?_⟩
 have eL : rltL d (encVa (canA v)) = itmsQ (litQ d) v (vals v.list) := by unfold rltL; rw [decVa_enc, canA_vals]; rfl
 rw [eL]
 have ho := acc_len (itmQ (litQ d) v (vals v.list)) d v hw hs (fun i hi => itmQ_len (litQ d) (szV d) (litQ_len d) v _ i hi)
 have key := seq_runs (turn := rltTurn d) (n := 80) (l := [1,3,4]) (m := [1]) (lx := [1,3]) (mx := [1]) (fun i => [.ptr (.tmp 1) 0, .str ((List.range i).flatMap (itmQ (litQ d) v (vals v.list))), .int .i64 (i : Nat)]) (fun _ => [encVa (canA v)]) (fun _ => []) (vals v.list).length (e := .exit 1) (by simp)
  (fun i hi D k => by
   refine (rlt_rd d v hw hk _ (ho i (by omega)) i hi D k).trans ?_
   rw [acc_snoc])
  (fun D k => by
   refine (rlt_step (WvD d) (rltR d) quoQ (PqD d) (rltL d) v.kind v.int v.text v.lf (vals v.list).length (fun i => (vals v.list).getD i va0) v.kf v.keys _ (vals v.list).length D k).trans ?_
   simp only [dF (show ¬ ((vals v.list).length : Int) < ((vals v.list).length : Nat) by omega), cond_false]
   rfl)
 exact key
theorem Pq_of {d : Nat} {v : VaD} (hw : wfVal (d + 1) v) (hs : szV (d + 1) v ≤ 16777216) : PqD d (encVa (canA v)) := by
 refine ⟨v, rfl, wf_list hw hs, fun i => ?_, ?_⟩
 · by_cases hi : i < v.keys.length
   · have hm : v.keys.getD i [] ∈ v.keys := by rw [List.getD_eq_getElem?_getD, List.getElem?_eq_getElem hi]; exact List.getElem_mem hi
     have := sum_mem (fun k : Oc => 16 + 16 * k.length) v.keys _ hm
     unfold szV at hs
     omega
   · rw [List.getD_eq_getElem?_getD, List.getElem?_eq_none (by omega)]; simp
 · unfold szV at hs
   unfold kSum
   omega
theorem sz_txt {d : Nat} {v : VaD} (hs : szV (d + 1) v ≤ 16777216) : v.text.length ≤ 1048576 := by
 unfold szV at hs
 omega
theorem rltTold_ok : ∀ (d : Nat) xs H k out, strTold (WvD d) (rltR d) xs H k = some out → ∃ o, CallOK Tryz.prog 33 xs H o ∧ k o = some out
 | 0 => vrTold_ok (ok := WvD 0) (post := fun x k => k (.ret (.str (rltR 0 x)) [])) fun x h => absurd h.2.1 (by unfold wfVal; exact id)
 | d + 1 => vrTold_ok (ok := WvD (d + 1)) (post := fun x k => k (.ret (.str (rltR (d + 1) x)) [])) fun x h => ⟨_, fun k => rfl, by
  obtain ⟨h1, h2, h3⟩ := h
  have h1 : x = encVa (decVa x) := h1
  generalize decVa x = v at h1 h2 h3
  subst h1
  rw [rltR_enc]
  have hl := wf_list h2 h3
  have hP := Pq_of h2 h3
  have ht := sz_txt h3
  have hint := h2.1
  have hint2 := h2.2.1
  have hL : (layRlt (WvD d) (rltR d) quoQ (PqD d) (rltL d)).OK Tryz.prog := Lay.OK.loop1 (((Lay.nil_ok.addF rprTold_ok).addF quoQTold_ok).addF (rltTold_ok d)) (id := 14) (by kernel_rfl) (by kernel_rfl) (by kernel_rfl) (rltSp_ok d)
  have eL : rltL d (encVa (canA v)) = itmsQ (litQ d) v (vals v.list) := by unfold rltL; rw [decVa_enc, canA_vals]; rfl
  have hlen : (itmsQ (litQ d) v (vals v.list)).length ≤ 33554432 := by
   obtain ⟨v2, e2, hw2, hk2, hs2⟩ := hP
   have hks : kSum v.keys ≤ 16777216 := by unfold szV at h3; unfold kSum; omega
   exact acc_len (itmQ (litQ d) v (vals v.list)) d v hl hks (fun i hi => itmQ_len (litQ d) (szV d) (litQ_len d) v _ i hi) _ (Nat.le_refl _)
  have hpl := printM_le v.int
  have key : CallOK Tryz.prog 33 [.agg (encVa (canA v))] [] (.ret (.str (litQ (d + 1) v)) []) := hL.callF (G := []) rfl (fun k => (rlt_fun (WvD d) (rltR d) quoQ (PqD d) (rltL d) (canA v) k).trans (by
   have e : litQ (d + 1) v = if v.kind = 0 then [110, 117, 108, 108] else if v.kind = 1 then [102, 97, 108, 115, 101] else if v.kind = 2 then [116, 114, 117, 101] else if v.kind = 3 then (if v.int < 0 then 32 :: printM v.int else printM v.int)
    else if v.kind = 5 then 91 :: (itmsQ (litQ d) v (vals v.list) ++ [93]) else if v.kind = 6 then 123 :: (itmsQ (litQ d) v (vals v.list) ++ [125]) else quoQ v.text := rfl
   rw [e]
   have c6 : decide (-9223372036854775808 ≤ v.int ∧ v.int ≤ 9223372036854775807) = true := dT ⟨hint, hint2⟩
   have c7 : decide (1 + (printM v.int).length ≤ 4611686018427387904) = true := dT (by omega)
   have c8 : decide (v.text.length ≤ 4194304) = true := dT (by omega)
   have c9 : decide (1 + (itmsQ (litQ d) v (vals v.list)).length ≤ 4611686018427387904) = true := dT (by omega)
   have c10 : ∀ b : UInt8, decide ((b :: itmsQ (litQ d) v (vals v.list)).length + 1 ≤ 4611686018427387904) = true := fun b => dT (by rw [List.length_cons]; omega)
   generalize hLx : rltL d (encVa (canA v)) = X at eL
   subst eL
   have hX : rltL d [AVal.int .i64 v.kind, AVal.int .i64 v.int, AVal.str v.text, AVal.list (canA v).lf (canA v).ln (canA v).lr, AVal.list (canA v).kf (canA v).keys.length fun i => [AVal.str ((canA v).keys.getD i [])]] = itmsQ (litQ d) v (vals v.list) := hLx
   have kE : (canA v).kind = v.kind := rfl
   have iE : (canA v).int = v.int := rfl
   have xE : (canA v).text = v.text := rfl
   simp only [kE, iE, xE]
   simp only [hX]
   by_cases k0 : v.kind = 0
   · rw [k0]; rfl
   by_cases k1 : v.kind = 1
   · rw [k1]; rfl
   by_cases k2 : v.kind = 2
   · rw [k2]; rfl
   rw [beq_false_of_ne k0, beq_false_of_ne k1, beq_false_of_ne k2, if_neg k0, if_neg k1, if_neg k2]
   simp only [cond_false]
   by_cases k3 : v.kind = 3
   · rw [k3]
     simp only [beq_self_eq_true, cond_true]
     by_cases hn : v.int < 0
     · rw [dT hn, if_pos hn, c6, c7]; rfl
     · rw [dF hn, if_neg hn, c6]; rfl
   rw [beq_false_of_ne k3, if_neg k3]
   simp only [cond_false]
   by_cases k5 : v.kind = 5
   · have b5 : (v.kind == 5) = true := by simpa using k5
     rw [b5, if_pos k5]
     simp only [cond_true]
     refine cT (tst_true ⟨hP, .refl _, trivial, trivial⟩) ?_
     rw [c9, c10]; rfl
   rw [beq_false_of_ne k5, if_neg k5]
   simp only [cond_false]
   by_cases k6 : v.kind = 6
   · have b6 : (v.kind == 6) = true := by simpa using k6
     rw [b6, if_pos k6]
     simp only [cond_true]
     refine cT (tst_true ⟨hP, .refl _, trivial, trivial⟩) ?_
     rw [c9, c10]; rfl
   rw [beq_false_of_ne k6, if_neg k6]
   simp only [cond_false]
   rw [c8]; rfl))
  exact key.subArgs (.cons (canA_sub hl) .nil)⟩
end Go.Mu
namespace Go.Mu
open Go Go.Proofs
def EV (s : Oc) (a : Int) : Int := a + ((endS 0 false (s.drop a.toNat) : Nat) : Int)
def vpI (kd : Int) (s : Oc) (p : Int) : Int := if kd = 6 then ES s (p + 1) + 1 else p
def nxI (kd : Int) (s : Oc) (p : Int) : Int := EV s (vpI kd s p)
def posI (kd : Int) (s : Oc) (a : Int) : Nat → Int
 | 0 => a
 | i + 1 => nxI kd s (posI kd s a i) + 1
def cntI (kd : Int) (s e : Oc) (a : Int) : Nat := (List.range s.length).findIdx (fun i => hpP e (s.drop (nxI kd s (posI kd s a i)).toNat)) + 1
def rowI (V : Oc → Int → VaD) (kd : Int) (s : Oc) (a : Int) (i : Nat) : List AVal := encVa (V s (vpI kd s (posI kd s a i)))
def keyI (kd : Int) (s : Oc) (a : Int) (i : Nat) : Oc := TS s (posI kd s a i + 1)
def itV (V : Oc → Int → VaD) (kd : Int) (s e : Oc) (a : Int) : VaD := if hpP e (s.drop a.toNat) = true then leafW kd 0 [] else
 ⟨kd, 0, [], false, cntI kd s e a, rowI V kd s a, decide (kd = 5), if kd = 6 then (List.range (cntI kd s e a)).map (keyI kd s a) else []⟩
def itE (kd : Int) (s e : Oc) (a : Int) : Int := if hpP e (s.drop a.toNat) = true then a + 1 else nxI kd s (posI kd s a (cntI kd s e a - 1)) + 1
def VV : Nat → Oc → Int → VaD
 | 0, _, _ => va0
 | d + 1, s, a => if hpP [110, 117, 108, 108] (s.drop a.toNat) = true then leafW 0 0 [] else if hpP [102, 97, 108, 115, 101] (s.drop a.toNat) = true then leafW 1 0 [] else if hpP [116, 114, 117, 101] (s.drop a.toNat) = true then leafW 2 0 [] else
  if hpP [34] (s.drop a.toNat) = true then leafW 4 0 (TS s (a + 1)) else if hpP [91] (s.drop a.toNat) = true then itV (VV d) 5 s [93] (a + 1) else if hpP [123] (s.drop a.toNat) = true then itV (VV d) 6 s [125] (a + 1) else numV (s.drop a.toNat)
def Good : Nat → VaD → Int → Prop
 | 0, _, _ => False
 | d + 1, v, l => 0 ≤ v.kind ∧ v.kind ≤ 6 ∧ (-9223372036854775808 ≤ v.int ∧ v.int ≤ 9223372036854775807) ∧ ((v.kind = 5 ∨ v.kind = 6) → (1 ≤ l ∧ l ≤ 16) ∧ ∀ w ∈ vals v.list, Good d w (l - 1)) ∧ (v.kind = 6 → v.keys.length = (vals v.list).length ∧ riB v.keys = true)
def KV (d : Nat) (s : Oc) (a l : Int) : Prop := 0 ≤ a ∧ s.length ≤ 67108864 ∧ ∃ v r, Good d v l ∧ s.drop a.toNat = litQ d v ++ r ∧ dlm r = true
theorem drop_adv {s x t : Oc} {p : Int} (h0 : 0 ≤ p) (h : s.drop p.toNat = x ++ t) : s.drop (p + (x.length : Nat)).toNat = t := by
 have e : (p + (x.length : Nat)).toNat = p.toNat + x.length := by omega
 rw [e, ← List.drop_drop, h, List.drop_left']; rfl
theorem EV_of {d : Nat} {v : VaD} {s r : Oc} {a : Int} (h : s.drop a.toNat = litQ d v ++ r) (hr : dlm r = true) : EV s a = a + ((litQ d v).length : Nat) := by
 unfold EV; rw [h, end_lit d v hr]
theorem dgN_ok : ∀ n : Fin 10, dgN (UInt8.ofNat (48 + n.val)) = true := by decide +kernel
theorem digsF_dg : ∀ (f u : Nat) (t : Oc), (∀ c ∈ t, dgN c = true) → ∀ c ∈ digsF f u t, dgN c = true
 | 0, u, t, h => h
 | f + 1, u, t, h => by
  have h2 : ∀ c ∈ UInt8.ofNat (48 + u % 10) :: t, dgN c = true := fun c hc => by
   rcases List.mem_cons.1 hc with rfl | hc
   · exact dgN_ok ⟨u % 10, by omega⟩
   · exact h c hc
  rw [digsF]
  cases u / 10 == 0
  · exact digsF_dg f _ _ h2
  · exact h2
theorem print_dg (n : Int) : ∀ c ∈ printM n, dgN c = true := by
 unfold printM
 have := digsF_dg 19 n.natAbs [] (by simp)
 cases decide (n < 0)
 · exact this
 · intro c hc
   rcases List.mem_cons.1 hc with rfl | hc
   · decide +kernel
   · exact this c hc
theorem digsF_ne : ∀ (f u : Nat) (t : Oc), t ≠ [] ∨ 0 < f → digsF f u t ≠ []
 | 0, u, t, h => by rcases h with h | h; exact h; omega
 | f + 1, u, t, h => by
  rw [digsF]
  cases u / 10 == 0
  · exact digsF_ne f _ _ (.inl (by simp))
  · simp
theorem print_ne (n : Int) : ∃ c t, printM n = c :: t ∧ dgN c = true := by
 cases h : printM n with
 | nil =>
  unfold printM at h
  have := digsF_ne 19 n.natAbs [] (.inr (by omega))
  cases hd : decide (n < 0)
  · rw [hd] at h; exact absurd h this
  · rw [hd] at h; cases h
 | cons c t => exact ⟨c, t, rfl, print_dg n c (by rw [h]; simp)⟩
theorem dgN_not : ∀ c : UInt8, dgN c = true → c ≠ 110 ∧ c ≠ 102 ∧ c ≠ 116 ∧ c ≠ 34 ∧ c ≠ 91 ∧ c ≠ 123 ∧ c ≠ 93 ∧ c ≠ 125 ∧ c ≠ 32 ∧ c ≠ 44 := oct256 (p := fun c => dgN c = true → c ≠ 110 ∧ c ≠ 102 ∧ c ≠ 116 ∧ c ≠ 34 ∧ c ≠ 91 ∧ c ≠ 123 ∧ c ≠ 93 ∧ c ≠ 125 ∧ c ≠ 32 ∧ c ≠ 44) (by decide +kernel)
theorem hpP_no {b c : UInt8} (h : b ≠ c) (p r : Oc) : hpP (c :: p) (b :: r) = false := by
 unfold hpP
 cases decide (((b :: r).length : Int) ≥ ((c :: p : Oc).length : Int))
 · rfl
 · show (b :: r.take p.length == c :: p) = false
   have : (b == c) = false := by simpa using h
   show (b == c && _) = false
   rw [this]; rfl
theorem hpP_yes (p r : Oc) : hpP p (p ++ r) = true := by
 unfold hpP
 rw [dT (show ((p ++ r).length : Int) ≥ (p.length : Int) by rw [List.length_append]; omega), cond_true, List.take_left']
 · simp
 · rfl
theorem lit_head {d : Nat} {v : VaD} {l : Int} (h : Good d v l) : ∃ c t, litQ d v = c :: t ∧ c ≠ 93 ∧ c ≠ 125 := by
 cases d with
 | zero => exact h.elim
 | succ d =>
  unfold litQ
  repeat' split
  · exact ⟨_, _, rfl, by decide, by decide⟩
  · exact ⟨_, _, rfl, by decide, by decide⟩
  · exact ⟨_, _, rfl, by decide, by decide⟩
  · exact ⟨_, _, rfl, by decide, by decide⟩
  · obtain ⟨c, t, e, hc⟩ := print_ne v.int
    have := dgN_not c hc
    exact ⟨c, t, e, this.2.2.2.2.2.2.1, this.2.2.2.2.2.2.2.1⟩
  · exact ⟨_, _, rfl, by decide, by decide⟩
  · exact ⟨_, _, rfl, by decide, by decide⟩
  · exact ⟨_, _, rfl, by decide, by decide⟩
abbrev restI (d : Nat) (v : VaD) (L : List VaD) (i : Nat) (x : Oc) : Oc := (List.range' (i + 1) (L.length - (i + 1))).flatMap (itmQ (litQ d) v L) ++ x
theorem rest_end {d : Nat} {v : VaD} {L : List VaD} {i : Nat} (x : Oc) (h : i + 1 = L.length) : restI d v L i x = x := by
 unfold restI
 rw [h, Nat.sub_self]; rfl
theorem rest_more {d : Nat} {v : VaD} {L : List VaD} {i : Nat} (x : Oc) (h : i + 1 < L.length) : restI d v L i x = 44 :: (keyQ v (i + 1) ++ (litQ d (L.getD (i + 1) va0) ++ restI d v L (i + 1) x)) := by
 unfold restI
 obtain ⟨m, hm⟩ : ∃ m, L.length - (i + 1) = m + 1 := ⟨L.length - (i + 2), by omega⟩
 have hm2 : L.length - (i + 1 + 1) = m := by omega
 rw [hm, hm2, List.range'_succ, List.flatMap_cons]
 unfold itmQ
 rw [if_pos (by omega)]
 simp only [List.append_assoc, List.cons_append, List.nil_append]
def AtI (d : Nat) (v : VaD) (L : List VaD) (x s : Oc) (p : Int) (i : Nat) : Prop := 0 ≤ p ∧ s.drop p.toNat = keyQ v i ++ (litQ d (L.getD i va0) ++ restI d v L i x)
theorem at_0 {d : Nat} {v : VaD} {L : List VaD} {x s : Oc} {a : Int} (h0 : 0 ≤ a) (hL : L ≠ []) (h : s.drop a.toNat = itmsQ (litQ d) v L ++ x) : AtI d v L x s a 0 := by
 refine ⟨h0, h.trans ?_⟩
 unfold itmsQ restI
 obtain ⟨m, hm⟩ : ∃ m, L.length = m + 1 := by
  cases L with
  | nil => exact absurd rfl hL
  | cons w L => exact ⟨L.length, rfl⟩
 have hm2 : L.length - (0 + 1) = m := by omega
 rw [hm2, List.range_eq_range', hm, List.range'_succ, List.flatMap_cons]
 unfold itmQ
 rw [if_neg (by omega)]
 simp only [List.append_assoc, List.nil_append]
theorem KS_of {s r : Oc} {a : Int} (k : Oc) (h0 : 0 ≤ a) (hl : s.length ≤ 67108864) (h : s.drop a.toNat = inP k ++ 34 :: r) : KS s a ∧ ES s a = a + ((inP k).length + 1 : Nat) ∧ TS s a = ((chP k).map encX).flatten := by
 refine ⟨⟨h0, hl, chP k, r, chP_ok k, h⟩, ?_, ?_⟩
 · unfold ES; rw [h, i34_of (inP_34 k)]
 · unfold TS
   rw [h]
   exact congrArg List.flatten (pcsS_of (chP_ok k) r)
theorem at_nx {d : Nat} {v : VaD} {L : List VaD} {x s : Oc} {p : Int} {i : Nat} (hs : s.length ≤ 67108864) (h : AtI d v L x s p i) (hk : v.kind = 5 ∨ v.kind = 6) (hkl : v.kind = 6 → i < v.keys.length) (hx : dlm (restI d v L i x) = true) :
 vpI v.kind s p = p + ((keyQ v i).length : Nat) ∧ s.drop (vpI v.kind s p).toNat = litQ d (L.getD i va0) ++ restI d v L i x ∧
 nxI v.kind s p = p + ((keyQ v i).length : Nat) + ((litQ d (L.getD i va0)).length : Nat) ∧ s.drop (nxI v.kind s p).toNat = restI d v L i x ∧
 (v.kind = 6 → hpP [34] (s.drop p.toNat) = true ∧ KS s (p + 1) ∧ TS s (p + 1) = ((chP (v.keys.getD i [])).map encX).flatten ∧ hpP [58] (s.drop (ES s (p + 1)).toNat) = true) := by
 obtain ⟨h0, h1⟩ := h
 have hd := drop_adv h0 h1
 have key : vpI v.kind s p = p + ((keyQ v i).length : Nat) ∧ (v.kind = 6 → hpP [34] (s.drop p.toNat) = true ∧ KS s (p + 1) ∧ TS s (p + 1) = ((chP (v.keys.getD i [])).map encX).flatten ∧ hpP [58] (s.drop (ES s (p + 1)).toNat) = true) := by
  unfold vpI
  by_cases h6 : v.kind = 6
  · have eK : keyQ v i = 34 :: (inP (v.keys.getD i []) ++ [34, 58]) := by
     unfold keyQ quoQ
     rw [if_pos ⟨h6, hkl h6⟩]
     simp
    rw [if_pos h6]
    rw [eK] at h1
    have h2 : s.drop (p + 1).toNat = inP (v.keys.getD i []) ++ 34 :: (58 :: (litQ d (L.getD i va0) ++ restI d v L i x)) := by
     have := drop_adv (x := [34]) (t := inP (v.keys.getD i []) ++ 34 :: (58 :: (litQ d (L.getD i va0) ++ restI d v L i x))) h0 (by rw [h1]; simp)
     exact this
    obtain ⟨k1, k2, k3⟩ := KS_of (v.keys.getD i []) (by omega) hs h2
    have h3 : s.drop (ES s (p + 1)).toNat = 58 :: (litQ d (L.getD i va0) ++ restI d v L i x) := by
     have := drop_adv (x := inP (v.keys.getD i []) ++ [34]) (t := 58 :: (litQ d (L.getD i va0) ++ restI d v L i x)) (show (0 : Int) ≤ p + 1 by omega) (by rw [h2]; simp)
     rw [k2]
     rw [List.length_append] at this
     exact this
    refine ⟨?_, fun _ => ⟨?_, k1, k3, ?_⟩⟩
    · rw [k2, eK]
      simp only [List.length_cons, List.length_append, List.length_nil]
      omega
    · rw [h1]; exact hp1_yes 34 _
    · rw [h3]; exact hp1_yes 58 _
  · rw [if_neg h6]
    refine ⟨?_, fun hh => absurd hh h6⟩
    have eK : keyQ v i = [] := by unfold keyQ; rw [if_neg (fun hh => h6 hh.1)]
    rw [eK]; simp
 obtain ⟨e1, e6⟩ := key
 have hd2 : s.drop (vpI v.kind s p).toNat = litQ d (L.getD i va0) ++ restI d v L i x := by rw [e1]; exact hd
 have e2 : nxI v.kind s p = p + ((keyQ v i).length : Nat) + ((litQ d (L.getD i va0)).length : Nat) := by
  unfold nxI
  rw [EV_of hd2 hx, e1]
 refine ⟨e1, hd2, e2, ?_, e6⟩
 rw [e2]
 exact drop_adv (by omega) hd
theorem rest_dlm {d : Nat} {v : VaD} {L : List VaD} {i : Nat} {c : UInt8} (r : Oc) (hc : c = 93 ∨ c = 125) (h : i < L.length) : dlm (restI d v L i (c :: r)) = true := by
 by_cases h1 : i + 1 = L.length
 · rw [rest_end _ h1]
   rcases hc with rfl | rfl <;> rfl
 · rw [rest_more _ (by omega)]; rfl
theorem at_pos {d : Nat} {v : VaD} {L : List VaD} {s r : Oc} {a : Int} {c : UInt8} (hs : s.length ≤ 67108864) (h0 : 0 ≤ a) (hL : L ≠ []) (hc : c = 93 ∨ c = 125) (h : s.drop a.toNat = itmsQ (litQ d) v L ++ c :: r) (hk : v.kind = 5 ∨ v.kind = 6) (hkl : v.kind = 6 → v.keys.length = L.length) :
 ∀ i, i < L.length → AtI d v L (c :: r) s (posI v.kind s a i) i ∧ (i : Int) ≤ posI v.kind s a i := by
 intro i
 induction i with
 | zero => intro _; exact ⟨at_0 h0 hL h, h0⟩
 | succ i ih =>
  intro hi
  obtain ⟨h1, h2⟩ := ih (by omega)
  obtain ⟨a1, a2, a3, a4, a5⟩ := at_nx hs h1 hk (fun h6 => by have := hkl h6; omega) (rest_dlm r hc (by omega))
  have e : posI v.kind s a (i + 1) = nxI v.kind s (posI v.kind s a i) + 1 := rfl
  rw [e]
  rw [rest_more _ hi] at a4
  refine ⟨⟨by have := h1.1; omega, ?_⟩, by have := h1.1; omega⟩
  exact drop_adv (x := [44]) (by have := h1.1; omega) a4
theorem cnt_of {d : Nat} {v : VaD} {L : List VaD} {s r : Oc} {a : Int} {c : UInt8} (hs : s.length ≤ 67108864) (h0 : 0 ≤ a) (hL : L ≠ []) (hc : c = 93 ∨ c = 125) (h : s.drop a.toNat = itmsQ (litQ d) v L ++ c :: r) (hk : v.kind = 5 ∨ v.kind = 6) (hkl : v.kind = 6 → v.keys.length = L.length) :
 cntI v.kind s [c] a = L.length := by
 have hp := at_pos hs h0 hL hc h hk hkl
 have hL1 : 0 < L.length := List.length_pos_iff.2 hL
 have nx : ∀ i, i < L.length → s.drop (nxI v.kind s (posI v.kind s a i)).toNat = restI d v L i (c :: r) := fun i hi =>
  (at_nx hs (hp i hi).1 hk (fun h6 => by have := hkl h6; omega) (rest_dlm r hc hi)).2.2.2.1
 have hlt : L.length - 1 < (List.range s.length).length := by
  rw [List.length_range]
  have h1 := nx (L.length - 1) (by omega)
  rw [rest_end _ (by omega)] at h1
  have h2 := (hp (L.length - 1) (by omega)).2
  have h3 := (at_nx hs (hp (L.length - 1) (by omega)).1 hk (fun h6 => by have := hkl h6; omega) (rest_dlm r hc (by omega))).2.2.1
  have h4 := congrArg List.length h1
  rw [List.length_drop, List.length_cons] at h4
  omega
 unfold cntI
 have : (List.range s.length).findIdx (fun i => hpP [c] (s.drop (nxI v.kind s (posI v.kind s a i)).toNat)) = L.length - 1 := by
  rw [List.findIdx_eq hlt]
  refine ⟨?_, fun j hj => ?_⟩
  · rw [List.getElem_range, nx _ (by omega), rest_end _ (by omega)]
    exact hp1_yes c r
  · rw [List.getElem_range, nx j (by omega), rest_more _ (by omega)]
    exact hp1_no (by rcases hc with rfl | rfl <;> decide) _
 omega
theorem itE_of {d : Nat} {v : VaD} {s r : Oc} {a : Int} {c : UInt8} (hs : s.length ≤ 67108864) (h0 : 0 ≤ a) (hc : c = 93 ∨ c = 125) (h : s.drop a.toNat = itmsQ (litQ d) v (vals v.list) ++ c :: r) (hk : v.kind = 5 ∨ v.kind = 6) (hkl : v.kind = 6 → v.keys.length = (vals v.list).length)
 (hG : ∀ w ∈ vals v.list, ∃ l, Good d w l) : itE v.kind s [c] a = a + (((itmsQ (litQ d) v (vals v.list)).length + 1 : Nat) : Int) ∧ (hpP [c] (s.drop a.toNat) = true ↔ vals v.list = []) := by
 generalize vals v.list = L at *
 by_cases hL : L = []
 · subst hL
   have h1 : s.drop a.toNat = c :: r := h
   have h2 : hpP [c] (s.drop a.toNat) = true := by rw [h1]; exact hp1_yes c r
   refine ⟨?_, fun _ => rfl, fun _ => h2⟩
   unfold itE
   rw [if_pos h2]; rfl
 · have hp := at_pos hs h0 hL hc h hk hkl
   have hL1 : 0 < L.length := List.length_pos_iff.2 hL
   have hA := (hp 0 hL1).1
   have hnot : hpP [c] (s.drop a.toNat) = false := by
    rw [show s.drop a.toNat = _ from hA.2]
    by_cases h6 : v.kind = 6
    · unfold keyQ quoQ
      rw [if_pos ⟨h6, by have := hkl h6; omega⟩]
      exact hp1_no (by rcases hc with rfl | rfl <;> decide) _
    · unfold keyQ
      rw [if_neg (fun hh => h6 hh.1)]
      have hm : L.getD 0 va0 ∈ L := by rw [List.getD_eq_getElem?_getD, List.getElem?_eq_getElem hL1]; exact List.getElem_mem hL1
      obtain ⟨l, hg⟩ := hG _ hm
      obtain ⟨b, t, e, n1, n2⟩ := lit_head hg
      rw [e]
      exact hp1_no (by rcases hc with rfl | rfl; exact n1; exact n2) _
   refine ⟨?_, ⟨fun hh => (by rw [hnot] at hh; cases hh), fun hh => absurd hh hL⟩⟩
   unfold itE
   rw [if_neg (by rw [hnot]; exact Bool.false_ne_true), cnt_of hs h0 hL hc h hk hkl]
   obtain ⟨a1, a2, a3, a4, a5⟩ := at_nx hs (hp (L.length - 1) (by omega)).1 hk (fun h6 => by have := hkl h6; omega) (rest_dlm r hc (by omega))
   rw [rest_end _ (by omega)] at a4
   have h4 := congrArg List.length a4
   have h5 := congrArg List.length h
   rw [List.length_drop, List.length_cons] at h4
   rw [List.length_drop, List.length_append, List.length_cons] at h5
   have := (hp (L.length - 1) (by omega)).2
   omega
end Go.Mu
namespace Go.Mu
open Go Go.Proofs
noncomputable def layItm (K0 : RK) (T0 : Oc → Int → Oc) (E0 : RE) (KV : Oc → Int → Int → Prop) (V : Oc → Int → Int → VaD) (EV : RE) (K : ItA → Prop) (R : ItA → ItR) : Lay := (layIt0 K0 T0 E0 KV V EV).addL 122 (itmFH K R)
theorem items5_fun (K0 : RK) (T0 : Oc → Int → Oc) (E0 : RE) (KV : Oc → Int → Int → Prop) (V : Oc → Int → Int → VaD) (EV : RE) (K : ItA → Prop) (R : ItA → ItR) (e s : Oc) (a l : Int) (k : Out → Ans) : iFun Tryz.prog ((layItm K0 T0 E0 KV V EV K R).hd Tryz.prog) (layItm K0 T0 E0 KV V EV K R).fhs 0 122 [.ptr (.hp 3) 0, .agg [.int .i64 5, .int .i64 0, .str [], nilList, nilList], .str e, .int .i64 l] (heap4 s a) k = (
 let m0 : Nat := (rS (heap4 s a)).length;
 let z0 := [Obj.var vz0, Obj.var [AVal.int .i64 0], Obj.var [AVal.int .i64 0], Obj.var [AVal.str (rS (heap4 s a)), AVal.int .i64 (rA (heap4 s a))]];
 let l1 : Oc := rS z0;
 let n2 : Int := rA z0;
 let m3 : Nat := (R (ItA.mk l1 n2 e l 5)).v;
 let z1 := [AVal.ptr (Oid.hp 3) 0, AVal.str e, AVal.int .i64 l, AVal.ptr (Oid.tmp 5) 0, AVal.ptr (Oid.tmp 8) 0];
  bif !decide (l > 0) then k (Out.panic (AVal.iface 39 (AVal.int .i64 42)) (heap4 s a)) else bif tst ((0 ≤ rA (heap4 s a) ∧ rA (heap4 s a) ≤ (↑m0 : Int) ∧ m0 ≤ 1099511627776 ∧ e.length ≤ 100 ∧ noteless (List.drop 4 (heap4 s a))) ∧ SubL [AVal.ptr (Oid.hp 3) 0, AVal.str e] [AVal.ptr (Oid.hp 3) 0, AVal.str e] ∧ heap4 s a = z0) then bif hpP e (List.drop (rA (heap4 s a)).toNat (rS (heap4 s a))) then k (Out.ret (AVal.agg [AVal.int .i64 5, AVal.int .i64 0, AVal.str [], AVal.list true 0 fun (x : Nat) => [], AVal.list true 0 fun (x : Nat) => []]) [Obj.var vz0, Obj.var [AVal.int .i64 0], Obj.var [AVal.int .i64 0], Obj.var [AVal.str (rS (heap4 s a)), AVal.int .i64 (rA (heap4 s a) + (↑e.length : Int))]]) else bif tst (K (ItA.mk l1 n2 e l 5) ∧ SubTL z1 z1 ∧ [[AVal.int .i64 5, AVal.int .i64 0, AVal.str [], AVal.list true 0 fun (x : Nat) => [], AVal.list true 0 fun (x : Nat) => []], [AVal.int .i64 0, AVal.int .i64 0, AVal.str [], AVal.list true 0 fun (x : Nat) => [], AVal.list true 0 fun (x : Nat) => []]] = [[AVal.int .i64 5, AVal.int .i64 0, AVal.str [], AVal.list true 0 fun (x : Nat) => [], AVal.list true 0 fun (x : Nat) => []], vz0] ∧ z0 = heap4 l1 n2) then k (Out.ret (AVal.agg [AVal.int .i64 5, AVal.int .i64 0, AVal.str [], AVal.own 4 0 (R (ItA.mk l1 n2 e l 5)).n m3 false, AVal.list true 0 fun (x : Nat) => []]) [Obj.var vz0, Obj.var [AVal.int .i64 0], Obj.var [AVal.int .i64 0], Obj.var [AVal.str l1, AVal.int .i64 (R (ItA.mk l1 n2 e l 5)).at_], Obj.arr 5 (R (ItA.mk l1 n2 e l 5)).rows m3]) else none else none) := by kernel_rfl
theorem items6_fun (K0 : RK) (T0 : Oc → Int → Oc) (E0 : RE) (KV : Oc → Int → Int → Prop) (V : Oc → Int → Int → VaD) (EV : RE) (K : ItA → Prop) (R : ItA → ItR) (e s : Oc) (a l : Int) (k : Out → Ans) : iFun Tryz.prog ((layItm K0 T0 E0 KV V EV K R).hd Tryz.prog) (layItm K0 T0 E0 KV V EV K R).fhs 0 122 [.ptr (.hp 3) 0, .agg [.int .i64 6, .int .i64 0, .str [], nilList, nilList], .str e, .int .i64 l] (heap4 s a) k = (
 let m0 : Nat := (rS (heap4 s a)).length;
 let z0 := [Obj.var vz0, Obj.var [AVal.int .i64 0], Obj.var [AVal.int .i64 0], Obj.var [AVal.str (rS (heap4 s a)), AVal.int .i64 (rA (heap4 s a))]];
 let l1 : Oc := rS z0;
 let n2 : Int := rA z0;
 let m3 : Nat := (R (ItA.mk l1 n2 e l 6)).n;
 let m4 : Nat := (R (ItA.mk l1 n2 e l 6)).v;
 let m5 : Nat := (R (ItA.mk l1 n2 e l 6)).u;
 let z1 := [AVal.ptr (Oid.hp 3) 0, AVal.str e, AVal.int .i64 l, AVal.ptr (Oid.tmp 5) 0, AVal.ptr (Oid.tmp 8) 0];
  bif !decide (l > 0) then k (Out.panic (AVal.iface 39 (AVal.int .i64 42)) (heap4 s a)) else bif tst ((0 ≤ rA (heap4 s a) ∧ rA (heap4 s a) ≤ (↑m0 : Int) ∧ m0 ≤ 1099511627776 ∧ e.length ≤ 100 ∧ noteless (List.drop 4 (heap4 s a))) ∧ SubL [AVal.ptr (Oid.hp 3) 0, AVal.str e] [AVal.ptr (Oid.hp 3) 0, AVal.str e] ∧ heap4 s a = z0) then bif hpP e (List.drop (rA (heap4 s a)).toNat (rS (heap4 s a))) then k (Out.ret (AVal.agg [AVal.int .i64 6, AVal.int .i64 0, AVal.str [], AVal.list true 0 fun (x : Nat) => [], AVal.list true 0 fun (x : Nat) => []]) [Obj.var vz0, Obj.var [AVal.int .i64 0], Obj.var [AVal.int .i64 0], Obj.var [AVal.str (rS (heap4 s a)), AVal.int .i64 (rA (heap4 s a) + (↑e.length : Int))]]) else bif tst (K (ItA.mk l1 n2 e l 6) ∧ SubTL z1 z1 ∧ [[AVal.int .i64 6, AVal.int .i64 0, AVal.str [], AVal.list true 0 fun (x : Nat) => [], AVal.list true 0 fun (x : Nat) => []], [AVal.int .i64 0, AVal.int .i64 0, AVal.str [], AVal.list true 0 fun (x : Nat) => [], AVal.list true 0 fun (x : Nat) => []]] = [[AVal.int .i64 6, AVal.int .i64 0, AVal.str [], AVal.list true 0 fun (x : Nat) => [], AVal.list true 0 fun (x : Nat) => []], vz0] ∧ z0 = heap4 l1 n2) then k (Out.ret (AVal.agg [AVal.int .i64 6, AVal.int .i64 0, AVal.str [], AVal.own 5 0 m3 m4 false, AVal.own 4 0 m3 m5 false]) [Obj.var vz0, Obj.var [AVal.int .i64 0], Obj.var [AVal.int .i64 0], Obj.var [AVal.str l1, AVal.int .i64 (R (ItA.mk l1 n2 e l 6)).at_], Obj.arr 1 (R (ItA.mk l1 n2 e l 6)).krows m5, Obj.arr 5 (R (ItA.mk l1 n2 e l 6)).rows m4]) else none else none) := by kernel_rfl
noncomputable def itmTold (K : ItA → Prop) (V : ItA → VaD) (E : ItA → Int) : FSp := mkF (fun xs H => ItA.mk (rS H) (rA H) (aS xs 2) (aI xs 3) (intOf ((cellsA (xs.getD 1 .undef)).getD 0 .undef))) (fun x => K x) (fun x => [.ptr (.hp 3) 0, .agg [.int .i64 x.kd, .int .i64 0, .str [], nilList, nilList], .str x.e, .int .i64 x.l]) (fun x => heap4 x.s x.a)
 (fun x k => k (.ret (.agg (encVa (V x))) (heap4 x.s (E x))))
noncomputable def dgtTold (K : RK) (V : Oc → Int → VaD) (E : RE) : FSp := mkF (fun xs H => HfA.mk (rS H) (rA H) (H.drop 4)) (fun x => K x.s x.a ∧ noteless x.G) (fun x => [.ptr (.hp 3) 0]) (fun x => heap4 x.s x.a ++ x.G) (fun x k => k (.ret (.agg (encVa (V x.s x.a))) (heap4 x.s (E x.s x.a) ++ x.G)))
noncomputable def layVl (K : RK) (T : Oc → Int → Oc) (E : RE) (KI : ItA → Prop) (VI : ItA → VaD) (EI : ItA → Int) (Wk : AVal → Prop) (R : AVal → Bool) (KD : RK) (VD : Oc → Int → VaD) (ED : RE) : Lay :=
 ((((Lay.nil.addF 120 tkTold).addF 121 (rstTold K T E)).addF 122 (itmTold KI VI EI)).addF 123 (riTold Wk R)).addF 124 (dgtTold KD VD ED)
theorem value_fun (K : RK) (T : Oc → Int → Oc) (E : RE) (KI : ItA → Prop) (VI : ItA → VaD) (EI : ItA → Int) (Wk : AVal → Prop) (R : AVal → Bool) (KD : RK) (VD : Oc → Int → VaD) (ED : RE) (s : Oc) (a l : Int) (k : Out → Ans) : iFun Tryz.prog ((layVl K T E KI VI EI Wk R KD VD ED).hd Tryz.prog) (layVl K T E KI VI EI Wk R KD VD ED).fhs 5 102 [.ptr (.hp 3) 0, .int .i64 l] (heap4 s a) k = (
 let m0 : Nat := (rS (heap4 s a)).length;
 let z2 := [Obj.var vz0, Obj.var [AVal.int .i64 0], Obj.var [AVal.int .i64 0], Obj.var [AVal.str (rS (heap4 s a)), AVal.int .i64 (rA (heap4 s a))]];
 let n1 : Int := rA z2;
 let l2 : Oc := rS z2;
 let m3 : Nat := l2.length;
 let z6 := [Obj.var vz0, Obj.var [AVal.int .i64 0], Obj.var [AVal.int .i64 0], Obj.var [AVal.str l2, AVal.int .i64 n1]];
 let n4 : Int := rA z6;
 let l5 : Oc := rS z6;
 let m6 : Nat := l5.length;
 let z7 := [Obj.var vz0, Obj.var [AVal.int .i64 0], Obj.var [AVal.int .i64 0], Obj.var [AVal.str l5, AVal.int .i64 n4]];
 let n7 : Int := rA z7;
 let l8 : Oc := rS z7;
 let m9 : Nat := l8.length;
 let z9 := [Obj.var vz0, Obj.var [AVal.int .i64 0], Obj.var [AVal.int .i64 0], Obj.var [AVal.str l8, AVal.int .i64 (n7 + (↑1 : Int))]];
 let l10 : Oc := rS z9;
 let n11 : Int := rA z9;
 let z8 := [Obj.var vz0, Obj.var [AVal.int .i64 0], Obj.var [AVal.int .i64 0], Obj.var [AVal.str l8, AVal.int .i64 n7]];
 let n12 : Int := rA z8;
 let l13 : Oc := rS z8;
 let m14 : Nat := l13.length;
 let z12 := [Obj.var vz0, Obj.var [AVal.int .i64 0], Obj.var [AVal.int .i64 0], Obj.var [AVal.str l13, AVal.int .i64 (n12 + (↑1 : Int))]];
 let l15 : Oc := rS z12;
 let n16 : Int := rA z12;
 let z4 := [Obj.var vz0, Obj.var [AVal.int .i64 0], Obj.var [AVal.int .i64 0], Obj.var [AVal.str l13, AVal.int .i64 n12]];
 let n17 : Int := rA z4;
 let l18 : Oc := rS z4;
 let m19 : Nat := l18.length;
 let z13 := [Obj.var vz0, Obj.var [AVal.int .i64 0], Obj.var [AVal.int .i64 0], Obj.var [AVal.str l18, AVal.int .i64 (n17 + (↑1 : Int))]];
 let l20 : Oc := rS z13;
 let n21 : Int := rA z13;
 let z5 := [Obj.var vz0, Obj.var [AVal.int .i64 0], Obj.var [AVal.int .i64 0], Obj.var [AVal.str l18, AVal.int .i64 n17]];
 let l22 : Oc := rS z5;
 let n23 : Int := rA z5;
 let z17 := [Obj.var vz0, Obj.var [AVal.int .i64 0], Obj.var [AVal.int .i64 0], Obj.var [AVal.str (rS z2), AVal.int .i64 (rA z2)]];
 let z10 := [Obj.var vz0, Obj.var [AVal.int .i64 0], Obj.var [AVal.int .i64 0], Obj.var [AVal.str (rS z17), AVal.int .i64 (rA z17)]];
 let z0 := [Obj.var vz0, Obj.var [AVal.int .i64 0], Obj.var [AVal.int .i64 0], Obj.var [AVal.str (rS z10), AVal.int .i64 (rA z10)]];
 let z3 := [Obj.var vz0, Obj.var [AVal.int .i64 0], Obj.var [AVal.int .i64 0], Obj.var [AVal.str (rS z0), AVal.int .i64 (rA z0)]];
 let z1 := [Obj.var vz0, Obj.var [AVal.int .i64 0], Obj.var [AVal.int .i64 0], Obj.var [AVal.str (rS z3), AVal.int .i64 (rA z3 + (↑1 : Int))]];
 let z11 := VI (ItA.mk l20 n21 [125] l 6);
 let z14 := VI (ItA.mk l15 n16 [93] l 5);
 let z15 := [Obj.var vz0, Obj.var [AVal.int .i64 0], Obj.var [AVal.int .i64 0], Obj.var [AVal.str (rS z0), AVal.int .i64 (rA z0 + (↑1 : Int))]];
 let z16 := VI (ItA.mk (rS z1) (rA z1) [125] l 6);
 let z18 := [Obj.var vz0, Obj.var [AVal.int .i64 0], Obj.var [AVal.int .i64 0], Obj.var [AVal.str (rS z3), AVal.int .i64 (rA z3)]];
 let z19 := [AVal.ptr (Oid.hp 3) 0, AVal.str [102, 97, 108, 115, 101]];
 let z20 := [AVal.ptr (Oid.hp 3) 0, AVal.str [110, 117, 108, 108]];
 let z21 := [AVal.ptr (Oid.hp 3) 0, AVal.str [116, 114, 117, 101]];
  bif tst ((0 ≤ rA (heap4 s a) ∧ rA (heap4 s a) ≤ (↑m0 : Int) ∧ m0 ≤ 1099511627776 ∧ 4 ≤ 100 ∧ noteless (List.drop 4 (heap4 s a))) ∧ SubL z20 z20 ∧ heap4 s a = z2) then bif hpP [110, 117, 108, 108] (List.drop (rA (heap4 s a)).toNat (rS (heap4 s a))) then k (Out.ret (AVal.agg [AVal.int .i64 0, AVal.int .i64 0, AVal.str [], AVal.list true 0 fun (x : Nat) => [], AVal.list true 0 fun (x : Nat) => []]) [Obj.var vz0, Obj.var [AVal.int .i64 0], Obj.var [AVal.int .i64 0], Obj.var [AVal.str (rS (heap4 s a)), AVal.int .i64 (rA (heap4 s a) + (↑4 : Int))]]) else bif tst ((0 ≤ n1 ∧ n1 ≤ (↑m3 : Int) ∧ m3 ≤ 1099511627776 ∧ 5 ≤ 100 ∧ noteless (List.drop 4 z2)) ∧ SubL z19 z19 ∧ z2 = z6) then bif hpP [102, 97, 108, 115, 101] (List.drop n1.toNat l2) then k (Out.ret (AVal.agg [AVal.int .i64 1, AVal.int .i64 0, AVal.str [], AVal.list true 0 fun (x : Nat) => [], AVal.list true 0 fun (x : Nat) => []]) [Obj.var vz0, Obj.var [AVal.int .i64 0], Obj.var [AVal.int .i64 0], Obj.var [AVal.str l2, AVal.int .i64 (n1 + (↑5 : Int))]]) else bif tst ((0 ≤ n4 ∧ n4 ≤ (↑m6 : Int) ∧ m6 ≤ 1099511627776 ∧ 4 ≤ 100 ∧ noteless (List.drop 4 z6)) ∧ SubL z21 z21 ∧ z6 = z7) then bif hpP [116, 114, 117, 101] (List.drop n4.toNat l5) then k (Out.ret (AVal.agg [AVal.int .i64 2, AVal.int .i64 0, AVal.str [], AVal.list true 0 fun (x : Nat) => [], AVal.list true 0 fun (x : Nat) => []]) [Obj.var vz0, Obj.var [AVal.int .i64 0], Obj.var [AVal.int .i64 0], Obj.var [AVal.str l5, AVal.int .i64 (n4 + (↑4 : Int))]]) else bif tst ((0 ≤ n7 ∧ n7 ≤ (↑m9 : Int) ∧ m9 ≤ 1099511627776 ∧ 1 ≤ 100 ∧ noteless (List.drop 4 z7)) ∧ SubL [AVal.ptr (Oid.hp 3) 0, AVal.str [34]] [AVal.ptr (Oid.hp 3) 0, AVal.str [34]] ∧ z7 = z8) then bif hpP [34] (List.drop n7.toNat l8) then bif tst ((K l10 n11 ∧ noteless (List.drop 4 z9)) ∧ SubL [AVal.ptr (Oid.hp 3) 0] [AVal.ptr (Oid.hp 3) 0] ∧ z9 = [Obj.var vz0, Obj.var [AVal.int .i64 0], Obj.var [AVal.int .i64 0], Obj.var [AVal.str l10, AVal.int .i64 n11]]) then k (Out.ret (AVal.agg [AVal.int .i64 4, AVal.int .i64 0, AVal.str (T l10 n11), AVal.list true 0 fun (x : Nat) => [], AVal.list true 0 fun (x : Nat) => []]) [Obj.var vz0, Obj.var [AVal.int .i64 0], Obj.var [AVal.int .i64 0], Obj.var [AVal.str l10, AVal.int .i64 (E l10 n11)]]) else none else bif tst ((0 ≤ n12 ∧ n12 ≤ (↑m14 : Int) ∧ m14 ≤ 1099511627776 ∧ 1 ≤ 100 ∧ noteless (List.drop 4 z8)) ∧ SubL [AVal.ptr (Oid.hp 3) 0, AVal.str [91]] [AVal.ptr (Oid.hp 3) 0, AVal.str [91]] ∧ z8 = z4) then bif hpP [91] (List.drop n12.toNat l13) then bif tst (KI (ItA.mk l15 n16 [93] l 5) ∧ SubL [AVal.ptr (Oid.hp 3) 0, AVal.agg [AVal.int .i64 5, AVal.int .i64 0, AVal.str [], AVal.list true 0 fun (x : Nat) => [], AVal.list true 0 fun (x : Nat) => []], AVal.str [93], AVal.int .i64 l] [AVal.ptr (Oid.hp 3) 0, AVal.agg [AVal.int .i64 5, AVal.int .i64 0, AVal.str [], AVal.list true 0 fun (x : Nat) => [], AVal.list true 0 fun (x : Nat) => []], AVal.str [93], AVal.int .i64 l] ∧ z12 = heap4 l15 n16) then k (Out.ret (AVal.agg [AVal.int .i64 z14.kind, AVal.int .i64 z14.int, AVal.str z14.text, AVal.list z14.lf z14.ln z14.lr, AVal.list z14.kf z14.keys.length fun i => [AVal.str ((VI (ItA.mk (rS z15) (rA z15) [93] l 5)).keys.getD i [])]]) (heap4 l15 (EI (ItA.mk l15 n16 [93] l 5)))) else none else bif tst ((0 ≤ n17 ∧ n17 ≤ (↑m19 : Int) ∧ m19 ≤ 1099511627776 ∧ 1 ≤ 100 ∧ noteless (List.drop 4 z4)) ∧ SubL [AVal.ptr (Oid.hp 3) 0, AVal.str [123]] [AVal.ptr (Oid.hp 3) 0, AVal.str [123]] ∧ z4 = z5) then bif hpP [123] (List.drop n17.toNat l18) then bif tst (KI (ItA.mk l20 n21 [125] l 6) ∧ SubL [AVal.ptr (Oid.hp 3) 0, AVal.agg [AVal.int .i64 6, AVal.int .i64 0, AVal.str [], AVal.list true 0 fun (x : Nat) => [], AVal.list true 0 fun (x : Nat) => []], AVal.str [125], AVal.int .i64 l] [AVal.ptr (Oid.hp 3) 0, AVal.agg [AVal.int .i64 6, AVal.int .i64 0, AVal.str [], AVal.list true 0 fun (x : Nat) => [], AVal.list true 0 fun (x : Nat) => []], AVal.str [125], AVal.int .i64 l] ∧ z13 = heap4 l20 n21) then bif tst (Wk (AVal.list z11.kf z11.keys.length fun i => [AVal.str (z16.keys.getD i [])]) ∧ SubL [AVal.list z11.kf z11.keys.length fun i => [AVal.str (z16.keys.getD i [])]] [canK (AVal.list z11.kf z11.keys.length fun i => [AVal.str (z16.keys.getD i [])])] ∧ ([] : Heap) = []) then bif !R (AVal.list z11.kf z11.keys.length fun i => [AVal.str (z16.keys.getD i [])]) then k (Out.panic (AVal.iface 39 (AVal.int .i64 33)) (heap4 l20 (EI (ItA.mk l20 n21 [125] l 6)))) else k (Out.ret (AVal.agg [AVal.int .i64 z11.kind, AVal.int .i64 z11.int, AVal.str z11.text, AVal.list z11.lf z11.ln z11.lr, AVal.list z11.kf z11.keys.length fun i => [AVal.str (z16.keys.getD i [])]]) (heap4 l20 (EI (ItA.mk l20 n21 [125] l 6)))) else none else none else bif tst ((KD l22 n23 ∧ noteless (List.drop 4 z5)) ∧ SubL [AVal.ptr (Oid.hp 3) 0] [AVal.ptr (Oid.hp 3) 0] ∧ z5 = [Obj.var vz0, Obj.var [AVal.int .i64 0], Obj.var [AVal.int .i64 0], Obj.var [AVal.str l22, AVal.int .i64 n23]]) then k (Out.ret (AVal.agg [AVal.int .i64 (VD l22 n23).kind, AVal.int .i64 (VD l22 n23).int, AVal.str (VD l22 n23).text, AVal.list (VD l22 n23).lf (VD l22 n23).ln (VD l22 n23).lr, AVal.list (VD l22 n23).kf (VD l22 n23).keys.length fun i => [AVal.str ((VD (rS z18) (rA z18)).keys.getD i [])]]) [Obj.var vz0, Obj.var [AVal.int .i64 0], Obj.var [AVal.int .i64 0], Obj.var [AVal.str l22, AVal.int .i64 (ED l22 n23)]]) else none else none else none else none else none else none else none) := by kernel_rfl
def lnK (x : AVal) : Nat := (decL decS x).length
noncomputable def rgSp (Wk : AVal → Prop) (R : AVal → Bool) : LSp := mkL (fun vs bs H => vs.getD 0 .undef) Wk (fun x => [canK x, canK x, .int .i64 (lnK x), .int .i64 0]) (fun _ => []) (fun _ => []) (fun x k => cond (R x) (k (.exit 0) [.undef] [] []) (k .ret [.bool false] [] []))
noncomputable def rgFH (Wk : AVal → Prop) (R : AVal → Bool) : FH := .of [(2, loopSpec 29 [0,5,6,7] [] [2] [] (rgSp Wk R))]
noncomputable def layRg0 : Lay := Lay.nil.addF 134 oNameTold
theorem rg_step (Wk : AVal → Prop) (R : AVal → Bool) (f : Bool) (ks : List Oc) (n i : Int) (D : Dfs) (k : Kont) : lturn Tryz.prog layRg0 (rgFH Wk R) 123 2 [0,5,6,7] [] [2] [] (stL 29 [0,5,6,7] [encSs f ks, encSs f ks, .int .i64 n, .int .i64 i] [] [] [] D) k = (
 let n0 : Int := (↑ks.length : Int);
 let n1 : Int := IntKind.i64.wrap (i - 1);
 let l2 : Oc := ks.getD i.toNat [];
 let c3 : Bool := !nameB l2;
 let c4 : Bool := decide (i > 0);
  bif decide (i < n) then bif decide (0 ≤ i) && decide (i < n0) then bif decide (0 ≤ n1) && decide (n1 < n0) || !(!c3 && c4) then bif bif c3 then true else bif c4 then !Op.bytesLess (ks.getD n1.toNat []) l2 else false then k AExit.ret (stL 29 [2] [AVal.bool false] [] [] [] D) else k AExit.normal (stL 29 [0, 5, 6, 7] [AVal.list f ks.length fun i => [AVal.str (ks.getD i [])], AVal.list f ks.length fun i => [AVal.str (ks.getD i [])], AVal.int .i64 n, AVal.int .i64 (IntKind.i64.wrap (i + 1))] [] [] [] D) else none else none else k (AExit.exit 0) (stL 29 [2] [AVal.undef] [] [] [] D)) := by kernel_rfl
noncomputable def layRg (Wk : AVal → Prop) (R : AVal → Bool) : Lay := layRg0.addL 123 (rgFH Wk R)
theorem rg_fun (Wk : AVal → Prop) (R : AVal → Bool) (f : Bool) (ks : List Oc) (k : Out → Ans) : iFun Tryz.prog ((layRg Wk R).hd Tryz.prog) (layRg Wk R).fhs 0 123 [encSs f ks] [] k = (
 bif tst (Wk (AVal.list f ks.length fun i => [AVal.str (ks.getD i [])]) ∧ SubTL [AVal.list f ks.length fun i => [AVal.str (ks.getD i [])], AVal.list f ks.length fun i => [AVal.str (ks.getD i [])], AVal.int .i64 (↑ks.length : Int), AVal.int .i64 0] [canK (AVal.list f ks.length fun i => [AVal.str (ks.getD i [])]), canK (AVal.list f ks.length fun i => [AVal.str (ks.getD i [])]), AVal.int .i64 (↑(lnK (AVal.list f ks.length fun i => [AVal.str (ks.getD i [])])) : Int), AVal.int .i64 0] ∧ ([] : List (List AVal)) = [] ∧ ([] : Heap) = []) then bif R (AVal.list f ks.length fun i => [AVal.str (ks.getD i [])]) then k (Out.ret (AVal.bool true) []) else k (Out.ret (AVal.bool false) []) else none) := by kernel_rfl
noncomputable def layRead0 (K : Oc → Int → Int → Prop) (V : Oc → Int → Int → VaD) (E : RE) : Lay := Lay.nil.addF 102 (rvlTold K V E)
noncomputable def layRead (K : Oc → Int → Int → Prop) (V : Oc → Int → Int → VaD) (E : RE) : Lay := (layRead0 K V E).addL 73 { heap := [2, 3, 4, 9] }
theorem read_fun (K : Oc → Int → Int → Prop) (V : Oc → Int → Int → VaD) (E : RE) (s : Oc) (k : Out → Ans) : iFun Tryz.prog ((layRead K V E).hd Tryz.prog) (layRead K V E).fhs 0 73 [.str s] [] k = (
 let z0 := [AVal.str s, AVal.int .i64 0];
 let l0 : Oc := rS [Obj.var [AVal.int .i64 0, AVal.int .i64 0, AVal.str [], AVal.list true 0 fun (x : Nat) => [], AVal.list true 0 fun (x : Nat) => []], Obj.var [AVal.int .i64 0], Obj.var [AVal.int .i64 0], Obj.var z0];
 let n1 : Int := rA [Obj.var [AVal.int .i64 0, AVal.int .i64 0, AVal.str [], AVal.list true 0 fun (x : Nat) => [], AVal.list true 0 fun (x : Nat) => []], Obj.var [AVal.int .i64 0], Obj.var [AVal.int .i64 0], Obj.var z0];
 let n2 : Int := E l0 n1;
 let n3 : Int := (↑s.length : Int);
 let z1 := [AVal.ptr (Oid.hp 3) 0, AVal.int .i64 16];
  bif tst ((K l0 n1 16 ∧ noteless (List.drop 4 [Obj.var [AVal.int .i64 0, AVal.int .i64 0, AVal.str [], AVal.list true 0 fun (x : Nat) => [], AVal.list true 0 fun (x : Nat) => []], Obj.var [AVal.int .i64 0], Obj.var [AVal.int .i64 0], Obj.var z0])) ∧ SubL z1 z1 ∧ [Obj.var [AVal.int .i64 0, AVal.int .i64 0, AVal.str [], AVal.list true 0 fun (x : Nat) => [], AVal.list true 0 fun (x : Nat) => []], Obj.var [AVal.int .i64 0], Obj.var [AVal.int .i64 0], Obj.var z0] = [Obj.var vz0, Obj.var [AVal.int .i64 0], Obj.var [AVal.int .i64 0], Obj.var [AVal.str l0, AVal.int .i64 n1]]) then bif !n2 == n3 then k (Out.ret (AVal.tuple [AVal.agg [AVal.int .i64 0, AVal.int .i64 0, AVal.str [], AVal.list true 0 fun (x : Nat) => [], AVal.list true 0 fun (x : Nat) => []], AVal.int .i64 0, AVal.int .i64 33]) [Obj.var [AVal.int .i64 0, AVal.int .i64 0, AVal.str [], AVal.list true 0 fun (x : Nat) => [], AVal.list true 0 fun (x : Nat) => []], Obj.var [AVal.int .i64 0], Obj.var [AVal.int .i64 33], Obj.var [AVal.str l0, AVal.int .i64 n2]]) else k (Out.ret (AVal.tuple [AVal.agg [AVal.int .i64 (V l0 n1 16).kind, AVal.int .i64 (V l0 n1 16).int, AVal.str (V l0 n1 16).text, AVal.list (V l0 n1 16).lf (V l0 n1 16).ln (V l0 n1 16).lr, AVal.list (V l0 n1 16).kf (V l0 n1 16).keys.length fun i => [AVal.str ((V (rS [Obj.var [AVal.int .i64 0, AVal.int .i64 0, AVal.str [], AVal.list true 0 fun (x : Nat) => [], AVal.list true 0 fun (x : Nat) => []], Obj.var [AVal.int .i64 0], Obj.var [AVal.int .i64 0], Obj.var z0]) (rA [Obj.var [AVal.int .i64 0, AVal.int .i64 0, AVal.str [], AVal.list true 0 fun (x : Nat) => [], AVal.list true 0 fun (x : Nat) => []], Obj.var [AVal.int .i64 0], Obj.var [AVal.int .i64 0], Obj.var z0]) 16).keys.getD i [])]], AVal.int .i64 n3, AVal.int .i64 0]) [Obj.var [AVal.int .i64 (V l0 n1 16).kind, AVal.int .i64 (V l0 n1 16).int, AVal.str (V l0 n1 16).text, AVal.list (V l0 n1 16).lf (V l0 n1 16).ln (V l0 n1 16).lr, AVal.list (V l0 n1 16).kf (V l0 n1 16).keys.length fun i => [AVal.str ((V (rS [Obj.var [AVal.int .i64 0, AVal.int .i64 0, AVal.str [], AVal.list true 0 fun (x : Nat) => [], AVal.list true 0 fun (x : Nat) => []], Obj.var [AVal.int .i64 0], Obj.var [AVal.int .i64 0], Obj.var z0]) (rA [Obj.var [AVal.int .i64 0, AVal.int .i64 0, AVal.str [], AVal.list true 0 fun (x : Nat) => [], AVal.list true 0 fun (x : Nat) => []], Obj.var [AVal.int .i64 0], Obj.var [AVal.int .i64 0], Obj.var z0]) 16).keys.getD i [])]], Obj.var [AVal.int .i64 n3], Obj.var [AVal.int .i64 0], Obj.var [AVal.str l0, AVal.int .i64 n2]]) else none) := by kernel_rfl
end Go.Mu
namespace Go.Mu
open Go Go.Proofs
abbrev VX (d : Nat) : Oc → Int → Int → VaD := fun s a _ => VV d s a
noncomputable abbrev itTn (KI : ItA → Prop) (RI : ItA → ItR) (d : Nat) := itT KS TS ES (KV d) (VX d) EV (itmFH KI RI)
abbrev endX (c : List AVal) (H : Heap) (D : Dfs) : St := stL 48 [8] [.ptr (.tmp 8) 0] [8] [c] H D
theorem nl_nil : noteless [] := fun t n h => by cases h
theorem nl_arr (sz : Nat) (rows : List (List AVal)) (v : Nat) (G : Heap) : noteless (.arr sz rows v :: G) := fun t n h => by cases h
theorem bk_1 (v n m : Nat) (h : n = m) (c : Nat) (hc : c ≤ 281474976710656) : (v == v && n == m && decide (c ≤ 281474976710656) && true) = true := by
 subst h
 rw [dT hc]; simp
theorem it5_a (KI : ItA → Prop) (RI : ItA → ItR) (d : Nat) (e s : Oc) (p l : Int) (hl : 1 ≤ l ∧ l ≤ 16) (hs : s.length ≤ 67108864) (he : e.length ≤ 100) (hK : KV d s p (l - 1)) (hq : 0 ≤ EV s p ∧ EV s p ≤ s.length) (b : Bool) (hb : hpP e (s.drop (EV s p).toNat) = b) (hc : b = false → hpP [44] (s.drop (EV s p).toNat) = true) (D : Dfs) (k : Kont) :
 itTn KI RI d (itS e l [.int .i64 5, .int .i64 0, .str [], nilList, nilList] (heap4 s p) D) k = cond b (k .ret (endX [.int .i64 5, .int .i64 0, .str [], .own 4 0 1 0 false, nilList] (heap4 s (EV s p + e.length) ++ [.arr 5 [encVa (VV d s p)] 0]) D))
  (k .normal (itS e l [.int .i64 5, .int .i64 0, .str [], .own 4 0 1 0 false, nilList] (heap4 s (EV s p + 1) ++ [.arr 5 [encVa (VV d s p)] 0]) D)) := by
 refine (it_a5 KI RI KS TS ES (KV d) (VX d) EV e s p l D k).trans ?_
 have e1 : IntKind.i64.wrap (l - 1) = l - 1 := wrap_of (by omega) (by omega)
 refine cT (tst_true ⟨⟨by rw [e1]; exact hK, nl_nil⟩, .refl _, rfl⟩) ?_
 refine cT (tst_true ⟨⟨hq.1, hq.2, (by omega : s.length ≤ 1099511627776), he, nl_arr _ _ _ _⟩, .refl _, rfl⟩) ?_
 refine (congrArg (fun c => cond c _ _) (show hpP e (s.drop (EV s p).toNat) = b from hb)).trans ?_
 cases b with
 | true => rfl
 | false =>
  refine (cond_false _ _).trans ?_
  refine cT (tst_true ⟨⟨hq.1, hq.2, (by omega : s.length ≤ 1099511627776), by omega, nl_arr _ _ _ _⟩, .refl _, rfl⟩) ?_
  refine cU (hc rfl) ?_
  rfl
theorem it5_b (KI : ItA → Prop) (RI : ItA → ItR) (d : Nat) (e s : Oc) (p l : Int) (n v : Nat) (rows : List (List AVal)) (hl : 1 ≤ l ∧ l ≤ 16) (hs : s.length ≤ 67108864) (he : e.length ≤ 100) (hn : n = rows.length) (hn2 : n ≤ 67108864) (hK : KV d s p (l - 1)) (hq : 0 ≤ EV s p ∧ EV s p ≤ s.length) (b : Bool) (hb : hpP e (s.drop (EV s p).toNat) = b) (hc : b = false → hpP [44] (s.drop (EV s p).toNat) = true) (D : Dfs) (k : Kont) :
 itTn KI RI d (itS e l [.int .i64 5, .int .i64 0, .str [], .own 4 0 n v false, nilList] (heap4 s p ++ [.arr 5 rows v]) D) k = cond b (k .ret (endX [.int .i64 5, .int .i64 0, .str [], .own 4 0 (n + 1) (v + 1) false, nilList] (heap4 s (EV s p + e.length) ++ [.arr 5 (rows ++ [encVa (VV d s p)]) (v + 1)]) D))
  (k .normal (itS e l [.int .i64 5, .int .i64 0, .str [], .own 4 0 (n + 1) (v + 1) false, nilList] (heap4 s (EV s p + 1) ++ [.arr 5 (rows ++ [encVa (VV d s p)]) (v + 1)]) D)) := by
 refine (it_b5 KI RI KS TS ES (KV d) (VX d) EV e s p l n v rows D k).trans ?_
 have e1 : IntKind.i64.wrap (l - 1) = l - 1 := wrap_of (by omega) (by omega)
 refine cT (tst_true ⟨⟨by rw [e1]; exact hK, nl_arr _ _ _ _⟩, .refl _, rfl⟩) ?_
 refine cT (bk_1 v n rows.length hn _ (by omega)) ?_
 refine cT (tst_true ⟨⟨hq.1, hq.2, (by omega : s.length ≤ 1099511627776), he, nl_arr _ _ _ _⟩, .refl _, rfl⟩) ?_
 refine (congrArg (fun c => cond c _ _) (show hpP e (s.drop (EV s p).toNat) = b from hb)).trans ?_
 cases b with
 | true => rfl
 | false =>
  refine (cond_false _ _).trans ?_
  refine cT (tst_true ⟨⟨hq.1, hq.2, (by omega : s.length ≤ 1099511627776), by omega, nl_arr _ _ _ _⟩, .refl _, rfl⟩) ?_
  refine cU (hc rfl) ?_
  rfl
theorem it6_a (KI : ItA → Prop) (RI : ItA → ItR) (d : Nat) (e s : Oc) (p l : Int) (hl : 1 ≤ l ∧ l ≤ 16) (hs : s.length ≤ 67108864) (he : e.length ≤ 100) (hp : 0 ≤ p ∧ p ≤ s.length) (h34 : hpP [34] (s.drop p.toNat) = true) (hKS : KS s (p + 1)) (hE : 0 ≤ ES s (p + 1) ∧ ES s (p + 1) ≤ s.length) (h58 : hpP [58] (s.drop (ES s (p + 1)).toNat) = true) (hK : KV d s (ES s (p + 1) + 1) (l - 1)) (hq : 0 ≤ EV s (ES s (p + 1) + 1) ∧ EV s (ES s (p + 1) + 1) ≤ s.length) (b : Bool) (hb : hpP e (s.drop (EV s (ES s (p + 1) + 1)).toNat) = b) (hc : b = false → hpP [44] (s.drop (EV s (ES s (p + 1) + 1)).toNat) = true) (D : Dfs) (k : Kont) :
 itTn KI RI d (itS e l [.int .i64 6, .int .i64 0, .str [], nilList, nilList] (heap4 s p) D) k = cond b (k .ret (endX [.int .i64 6, .int .i64 0, .str [], .own 5 0 1 0 false, .own 4 0 1 0 false] (heap4 s (EV s (ES s (p + 1) + 1) + e.length) ++ [.arr 1 [[.str (TS s (p + 1))]] 0, .arr 5 [encVa (VV d s (ES s (p + 1) + 1))] 0]) D))
  (k .normal (itS e l [.int .i64 6, .int .i64 0, .str [], .own 5 0 1 0 false, .own 4 0 1 0 false] (heap4 s (EV s (ES s (p + 1) + 1) + 1) ++ [.arr 1 [[.str (TS s (p + 1))]] 0, .arr 5 [encVa (VV d s (ES s (p + 1) + 1))] 0]) D)) := by
 refine (it_a6 KI RI KS TS ES (KV d) (VX d) EV e s p l D k).trans ?_
 have e1 : IntKind.i64.wrap (l - 1) = l - 1 := wrap_of (by omega) (by omega)
 refine cT (tst_true ⟨⟨hp.1, hp.2, (by omega : s.length ≤ 1099511627776), by omega, nl_nil⟩, .refl _, rfl⟩) ?_
 refine cU h34 ?_
 refine cT (tst_true ⟨⟨hKS, nl_nil⟩, .refl _, rfl⟩) ?_
 refine cT (tst_true ⟨⟨hE.1, hE.2, (by omega : s.length ≤ 1099511627776), by omega, nl_arr _ _ _ _⟩, .refl _, rfl⟩) ?_
 refine cU h58 ?_
 refine cT (tst_true ⟨⟨by rw [e1]; exact hK, nl_arr _ _ _ _⟩, .refl _, rfl⟩) ?_
 refine cT (tst_true ⟨⟨hq.1, hq.2, (by omega : s.length ≤ 1099511627776), he, nl_arr _ _ _ _⟩, .refl _, rfl⟩) ?_
 refine (congrArg (fun c => cond c _ _) (show hpP e (s.drop (EV s (ES s (p + 1) + 1)).toNat) = b from hb)).trans ?_
 cases b with
 | true => rfl
 | false =>
  refine (cond_false _ _).trans ?_
  refine cT (tst_true ⟨⟨hq.1, hq.2, (by omega : s.length ≤ 1099511627776), by omega, nl_arr _ _ _ _⟩, .refl _, rfl⟩) ?_
  refine cU (hc rfl) ?_
  rfl
theorem it6_b (KI : ItA → Prop) (RI : ItA → ItR) (d : Nat) (e s : Oc) (p l : Int) (n v : Nat) (rows krows : List (List AVal)) (hl : 1 ≤ l ∧ l ≤ 16) (hs : s.length ≤ 67108864) (he : e.length ≤ 100) (hn : n = rows.length) (hn2 : n ≤ 67108864) (hn3 : n = krows.length) (hp : 0 ≤ p ∧ p ≤ s.length) (h34 : hpP [34] (s.drop p.toNat) = true) (hKS : KS s (p + 1)) (hE : 0 ≤ ES s (p + 1) ∧ ES s (p + 1) ≤ s.length) (h58 : hpP [58] (s.drop (ES s (p + 1)).toNat) = true) (hK : KV d s (ES s (p + 1) + 1) (l - 1)) (hq : 0 ≤ EV s (ES s (p + 1) + 1) ∧ EV s (ES s (p + 1) + 1) ≤ s.length) (b : Bool) (hb : hpP e (s.drop (EV s (ES s (p + 1) + 1)).toNat) = b) (hc : b = false → hpP [44] (s.drop (EV s (ES s (p + 1) + 1)).toNat) = true) (D : Dfs) (k : Kont) :
 itTn KI RI d (itS e l [.int .i64 6, .int .i64 0, .str [], .own 5 0 n v false, .own 4 0 n v false] (heap4 s p ++ [.arr 1 krows v, .arr 5 rows v]) D) k = cond b (k .ret (endX [.int .i64 6, .int .i64 0, .str [], .own 5 0 (n + 1) (v + 1) false, .own 4 0 (n + 1) (v + 1) false] (heap4 s (EV s (ES s (p + 1) + 1) + e.length) ++ [.arr 1 (krows ++ [[.str (TS s (p + 1))]]) (v + 1), .arr 5 (rows ++ [encVa (VV d s (ES s (p + 1) + 1))]) (v + 1)]) D))
  (k .normal (itS e l [.int .i64 6, .int .i64 0, .str [], .own 5 0 (n + 1) (v + 1) false, .own 4 0 (n + 1) (v + 1) false] (heap4 s (EV s (ES s (p + 1) + 1) + 1) ++ [.arr 1 (krows ++ [[.str (TS s (p + 1))]]) (v + 1), .arr 5 (rows ++ [encVa (VV d s (ES s (p + 1) + 1))]) (v + 1)]) D)) := by
 refine (it_b6 KI RI KS TS ES (KV d) (VX d) EV e s p l n v n v rows krows D k).trans ?_
 have e1 : IntKind.i64.wrap (l - 1) = l - 1 := wrap_of (by omega) (by omega)
 refine cT (tst_true ⟨⟨hp.1, hp.2, (by omega : s.length ≤ 1099511627776), by omega, nl_arr _ _ _ _⟩, .refl _, rfl⟩) ?_
 refine cU h34 ?_
 refine cT (tst_true ⟨⟨hKS, nl_arr _ _ _ _⟩, .refl _, rfl⟩) ?_
 refine cT (bk_1 v n krows.length hn3 _ (by omega)) ?_
 refine cT (tst_true ⟨⟨hE.1, hE.2, (by omega : s.length ≤ 1099511627776), by omega, nl_arr _ _ _ _⟩, .refl _, rfl⟩) ?_
 refine cU h58 ?_
 refine cT (tst_true ⟨⟨by rw [e1]; exact hK, nl_arr _ _ _ _⟩, .refl _, rfl⟩) ?_
 refine cT (bk_1 v n rows.length hn _ (by omega)) ?_
 refine cT (tst_true ⟨⟨hq.1, hq.2, (by omega : s.length ≤ 1099511627776), he, nl_arr _ _ _ _⟩, .refl _, rfl⟩) ?_
 refine (congrArg (fun c => cond c _ _) (show hpP e (s.drop (EV s (ES s (p + 1) + 1)).toNat) = b from hb)).trans ?_
 cases b with
 | true => rfl
 | false =>
  refine (cond_false _ _).trans ?_
  refine cT (tst_true ⟨⟨hq.1, hq.2, (by omega : s.length ≤ 1099511627776), by omega, nl_arr _ _ _ _⟩, .refl _, rfl⟩) ?_
  refine cU (hc rfl) ?_
  rfl
end Go.Mu
namespace Go.Mu
open Go Go.Proofs
def KItE (d : Nat) (x : ItA) : Prop := (x.kd = 5 ∨ x.kd = 6) ∧ (1 ≤ x.l ∧ x.l ≤ 16) ∧ x.s.length ≤ 67108864 ∧ 0 ≤ x.a ∧ ∃ (v : VaD) (c : UInt8) (r : Oc), v.kind = x.kd ∧ (∀ w ∈ vals v.list, Good d w (x.l - 1)) ∧ (x.kd = 6 → v.keys.length = (vals v.list).length) ∧ x.e = [c] ∧ (c = 93 ∨ c = 125) ∧ x.s.drop x.a.toNat = itmsQ (litQ d) v (vals v.list) ++ c :: r
def KItD (d : Nat) (x : ItA) : Prop := KItE d x ∧ hpP x.e (x.s.drop x.a.toNat) = false
def rwI (d : Nat) (kd : Int) (s : Oc) (a : Int) (n : Nat) : List (List AVal) := (List.range n).map (rowI (VV d) kd s a)
def krI (kd : Int) (s : Oc) (a : Int) (n : Nat) : List (List AVal) := (List.range n).map (fun i => [.str (keyI kd s a i)])
def RIt (d : Nat) (x : ItA) : ItR := ⟨cntI x.kd x.s x.e x.a, cntI x.kd x.s x.e x.a - 1, cntI x.kd x.s x.e x.a - 1, rwI d x.kd x.s x.a (cntI x.kd x.s x.e x.a), krI x.kd x.s x.a (cntI x.kd x.s x.e x.a), nxI x.kd x.s (posI x.kd x.s x.a (cntI x.kd x.s x.e x.a - 1)) + x.e.length⟩
theorem rw_succ (d : Nat) (kd : Int) (s : Oc) (a : Int) (n : Nat) : rwI d kd s a (n + 1) = rwI d kd s a n ++ [rowI (VV d) kd s a n] := by
 unfold rwI; rw [List.range_succ, List.map_append]; rfl
theorem kr_succ (kd : Int) (s : Oc) (a : Int) (n : Nat) : krI kd s a (n + 1) = krI kd s a n ++ [[.str (keyI kd s a n)]] := by
 unfold krI; rw [List.range_succ, List.map_append]; rfl
theorem rw_len (d : Nat) (kd : Int) (s : Oc) (a : Int) (n : Nat) : (rwI d kd s a n).length = n := by unfold rwI; simp
theorem kr_len (kd : Int) (s : Oc) (a : Int) (n : Nat) : (krI kd s a n).length = n := by unfold krI; simp
theorem itm_at {d : Nat} {v : VaD} {s r : Oc} {a l : Int} {c : UInt8} (hs : s.length ≤ 67108864) (h0 : 0 ≤ a) (hL : vals v.list ≠ []) (hc : c = 93 ∨ c = 125) (h : s.drop a.toNat = itmsQ (litQ d) v (vals v.list) ++ c :: r) (hk : v.kind = 5 ∨ v.kind = 6) (hkl : v.kind = 6 → v.keys.length = (vals v.list).length)
 (hG : ∀ w ∈ vals v.list, Good d w (l - 1)) (i : Nat) (hi : i < (vals v.list).length) : (0 ≤ posI v.kind s a i ∧ posI v.kind s a i ≤ s.length) ∧ KV d s (vpI v.kind s (posI v.kind s a i)) (l - 1) ∧ (0 ≤ nxI v.kind s (posI v.kind s a i) ∧ nxI v.kind s (posI v.kind s a i) ≤ s.length) ∧
 hpP [c] (s.drop (nxI v.kind s (posI v.kind s a i)).toNat) = decide (i + 1 = (vals v.list).length) ∧ (i + 1 ≠ (vals v.list).length → hpP [44] (s.drop (nxI v.kind s (posI v.kind s a i)).toNat) = true) ∧
 (v.kind = 6 → hpP [34] (s.drop (posI v.kind s a i).toNat) = true ∧ KS s (posI v.kind s a i + 1) ∧ (0 ≤ ES s (posI v.kind s a i + 1) ∧ ES s (posI v.kind s a i + 1) ≤ s.length) ∧ hpP [58] (s.drop (ES s (posI v.kind s a i + 1)).toNat) = true) := by
 have hm : (vals v.list).getD i va0 ∈ vals v.list := by rw [List.getD_eq_getElem?_getD, List.getElem?_eq_getElem hi]; exact List.getElem_mem hi
 have hg := hG _ hm
 obtain ⟨hA, hp⟩ := at_pos hs h0 hL hc h hk hkl i hi
 obtain ⟨a1, a2, a3, a4, a5⟩ := at_nx hs hA hk (fun h6 => by have := hkl h6; omega) (rest_dlm r hc hi)
 have hp0 := hA.1
 have hne : ∃ b t, restI d v (vals v.list) i (c :: r) = b :: t := by
  by_cases h1 : i + 1 = (vals v.list).length
  · exact ⟨_, _, rest_end _ h1⟩
  · exact ⟨_, _, rest_more _ (by omega)⟩
 have hq : nxI v.kind s (posI v.kind s a i) ≤ s.length := by
  obtain ⟨b, t, e⟩ := hne
  have h2 := congrArg List.length a4
  rw [e, List.length_drop, List.length_cons] at h2
  omega
 refine ⟨⟨hp0, by omega⟩, ⟨by omega, hs, _, _, hg, a2, rest_dlm r hc hi⟩, ⟨by omega, hq⟩, ?_, ?_, fun h6 => ?_⟩
 · rw [a4]
   by_cases h1 : i + 1 = (vals v.list).length
   · rw [dT h1, rest_end _ h1]; exact hp1_yes c r
   · rw [dF h1, rest_more _ (by omega)]
     exact hp1_no (by rcases hc with rfl | rfl <;> decide) _
 · intro h1
   rw [a4, rest_more _ (by omega)]
   exact hp1_yes 44 _
 · obtain ⟨b1, b2, b3, b4⟩ := a5 h6
   refine ⟨b1, b2, ?_, b4⟩
   have e : vpI v.kind s (posI v.kind s a i) = ES s (posI v.kind s a i + 1) + 1 := by unfold vpI; rw [if_pos h6]
   have : 1 ≤ (litQ d ((vals v.list).getD i va0)).length := by
    obtain ⟨b, t, e2, _⟩ := lit_head hg
    rw [e2]; simp
   have hES : posI v.kind s a i + 1 ≤ ES s (posI v.kind s a i + 1) := by unfold ES; omega
   omega
theorem vp5 (s : Oc) (p : Int) : vpI 5 s p = p := if_neg (by decide)
theorem vp6 (s : Oc) (p : Int) : vpI 6 s p = ES s (p + 1) + 1 := if_pos rfl
theorem nx5 (s : Oc) (p : Int) : nxI 5 s p = EV s p := by unfold nxI; rw [vp5]
theorem nx6 (s : Oc) (p : Int) : nxI 6 s p = EV s (ES s (p + 1) + 1) := by unfold nxI; rw [vp6]
abbrev itV0 (e : Oc) (l : Int) : List AVal := [.ptr (.hp 3) 0, .str e, .int .i64 l, .ptr (.tmp 5) 0, .ptr (.tmp 8) 0]
def L5 (i : Nat) : AVal := match i with | 0 => nilList | j + 1 => .own 4 0 (j + 1) j false
def H5 (d : Nat) (s : Oc) (a : Int) (i : Nat) : Heap := match i with | 0 => heap4 s a | j + 1 => heap4 s (posI 5 s a (j + 1)) ++ [.arr 5 (rwI d 5 s a (j + 1)) j]
def L6 (i : Nat) : AVal := match i with | 0 => nilList | j + 1 => .own 5 0 (j + 1) j false
def H6 (d : Nat) (s : Oc) (a : Int) (i : Nat) : Heap := match i with | 0 => heap4 s a | j + 1 => heap4 s (posI 6 s a (j + 1)) ++ [.arr 1 (krI 6 s a (j + 1)) j, .arr 5 (rwI d 6 s a (j + 1)) j]
theorem loop5 (KI : ItA → Prop) (RI : ItA → ItR) (d : Nat) {v : VaD} {s r : Oc} {a l : Int} {c : UInt8} (hl : 1 ≤ l ∧ l ≤ 16) (hs : s.length ≤ 67108864) (h0 : 0 ≤ a) (hL : vals v.list ≠ []) (hc : c = 93 ∨ c = 125) (h : s.drop a.toNat = itmsQ (litQ d) v (vals v.list) ++ c :: r) (hk : v.kind = 5)
 (hG : ∀ w ∈ vals v.list, Good d w (l - 1)) (m : Nat) (hm : m + 1 = (vals v.list).length) :
 LoopRuns (itTn KI RI d) 48 [0,2,3,5,8] [5,8] [8] [8] (itV0 [c] l) [[.int .i64 5, .int .i64 0, .str [], nilList, nilList], vz0] (heap4 s a) .ret [.ptr (.tmp 8) 0] [[.int .i64 5, .int .i64 0, .str [], .own 4 0 (m + 1) m false, nilList]] (heap4 s (nxI 5 s (posI 5 s a m) + ([c] : Oc).length) ++ [.arr 5 (rwI d 5 s a (m + 1)) m]) := by
 have hA := itm_at hs h0 hL hc h (.inl hk) (fun h6 => by omega) hG
 rw [hk] at hA
 have hms : m ≤ s.length := by
  have := at_pos hs h0 hL hc h (.inl hk) (fun h6 => by omega) m (by omega)
  have h2 := (hA m (by omega)).1.2
  rw [hk] at this
  omega
 have step : ∀ i, i ≤ m → ∀ D k, itTn KI RI d (stL 48 [0,2,3,5,8] (itV0 [c] l) [5,8] [[.int .i64 5, .int .i64 0, .str [], L5 i, nilList], vz0] (H5 d s a i) D) k =
  cond (decide (i + 1 = (vals v.list).length)) (k .ret (endX [.int .i64 5, .int .i64 0, .str [], .own 4 0 (i + 1) i false, nilList] (heap4 s (nxI 5 s (posI 5 s a i) + ([c] : Oc).length) ++ [.arr 5 (rwI d 5 s a (i + 1)) i]) D))
  (k .normal (stL 48 [0,2,3,5,8] (itV0 [c] l) [5,8] [[.int .i64 5, .int .i64 0, .str [], L5 (i + 1), nilList], vz0] (H5 d s a (i + 1)) D)) := fun i hi D k => by
  obtain ⟨b1, b2, b3, b4, b5, _⟩ := hA i (by omega)
  have hcc : decide (i + 1 = (vals v.list).length) = false → hpP [44] (s.drop (nxI 5 s (posI 5 s a i)).toNat) = true := fun hd => b5 (of_decide_eq_false hd)
  have eP : posI 5 s a (i + 1) = nxI 5 s (posI 5 s a i) + 1 := rfl
  rw [vp5] at b2
  rw [nx5] at b3 b4 hcc eP ⊢
  cases i with
  | zero =>
   refine (it5_a KI RI d [c] s (posI 5 s a 0) l hl hs (by simp) b2 b3 _ b4 hcc D k).trans ?_
   have eR : rwI d 5 s a 1 = [encVa (VV d s (posI 5 s a 0))] := by rw [rw_succ]; unfold rowI; rw [vp5]; rfl
   show cond _ _ _ = cond _ (k .ret (endX _ (heap4 s _ ++ [.arr 5 (rwI d 5 s a 1) 0]) D)) (k .normal (itS [c] l _ (heap4 s (posI 5 s a (0 + 1)) ++ [.arr 5 (rwI d 5 s a 1) 0]) D))
   rw [eR, eP]
   rfl
  | succ j =>
   refine (it5_b KI RI d [c] s (posI 5 s a (j + 1)) l (j + 1) j (rwI d 5 s a (j + 1)) hl hs (by simp) (rw_len d 5 s a (j + 1)).symm (by omega) b2 b3 _ b4 hcc D k).trans ?_
   have eR : rwI d 5 s a (j + 1 + 1) = rwI d 5 s a (j + 1) ++ [encVa (VV d s (posI 5 s a (j + 1)))] := by rw [rw_succ d 5 s a (j + 1)]; unfold rowI; rw [vp5]
   show cond _ _ _ = cond _ (k .ret (endX _ (heap4 s _ ++ [.arr 5 (rwI d 5 s a (j + 1 + 1)) (j + 1)]) D)) (k .normal (itS [c] l _ (heap4 s (posI 5 s a (j + 1 + 1)) ++ [.arr 5 (rwI d 5 s a (j + 1 + 1)) (j + 1)]) D))
   rw [eR, eP]
   rfl
 exact seq_runs (turn := itTn KI RI d) (n := 48) (l := [0,2,3,5,8]) (m := [5,8]) (lx := [8]) (mx := [8]) (fun _ => itV0 [c] l) (fun i => [[.int .i64 5, .int .i64 0, .str [], L5 i, nilList], vz0]) (H5 d s a) m (e := .ret) (by simp)
  (fun i hi D k => by rw [step i (by omega) D k, dF (show ¬ i + 1 = (vals v.list).length by omega)]; rfl)
  (fun D k => by rw [step m (Nat.le_refl _) D k, dT hm]; rfl)
theorem loop6 (KI : ItA → Prop) (RI : ItA → ItR) (d : Nat) {v : VaD} {s r : Oc} {a l : Int} {c : UInt8} (hl : 1 ≤ l ∧ l ≤ 16) (hs : s.length ≤ 67108864) (h0 : 0 ≤ a) (hL : vals v.list ≠ []) (hc : c = 93 ∨ c = 125) (h : s.drop a.toNat = itmsQ (litQ d) v (vals v.list) ++ c :: r) (hk : v.kind = 6) (hkl : v.keys.length = (vals v.list).length)
 (hG : ∀ w ∈ vals v.list, Good d w (l - 1)) (m : Nat) (hm : m + 1 = (vals v.list).length) :
 LoopRuns (itTn KI RI d) 48 [0,2,3,5,8] [5,8] [8] [8] (itV0 [c] l) [[.int .i64 6, .int .i64 0, .str [], nilList, nilList], vz0] (heap4 s a) .ret [.ptr (.tmp 8) 0] [[.int .i64 6, .int .i64 0, .str [], .own 5 0 (m + 1) m false, .own 4 0 (m + 1) m false]] (heap4 s (nxI 6 s (posI 6 s a m) + ([c] : Oc).length) ++ [.arr 1 (krI 6 s a (m + 1)) m, .arr 5 (rwI d 6 s a (m + 1)) m]) := by
 have hA := itm_at hs h0 hL hc h (.inr hk) (fun _ => hkl) hG
 rw [hk] at hA
 have hms : m ≤ s.length := by
  have := at_pos hs h0 hL hc h (.inr hk) (fun _ => hkl) m (by omega)
  have h2 := (hA m (by omega)).1.2
  rw [hk] at this
  omega
 have step : ∀ i, i ≤ m → ∀ D k, itTn KI RI d (stL 48 [0,2,3,5,8] (itV0 [c] l) [5,8] [[.int .i64 6, .int .i64 0, .str [], L6 i, L5 i], vz0] (H6 d s a i) D) k =
  cond (decide (i + 1 = (vals v.list).length)) (k .ret (endX [.int .i64 6, .int .i64 0, .str [], .own 5 0 (i + 1) i false, .own 4 0 (i + 1) i false] (heap4 s (nxI 6 s (posI 6 s a i) + ([c] : Oc).length) ++ [.arr 1 (krI 6 s a (i + 1)) i, .arr 5 (rwI d 6 s a (i + 1)) i]) D))
  (k .normal (stL 48 [0,2,3,5,8] (itV0 [c] l) [5,8] [[.int .i64 6, .int .i64 0, .str [], L6 (i + 1), L5 (i + 1)], vz0] (H6 d s a (i + 1)) D)) := fun i hi D k => by
  obtain ⟨b1, b2, b3, b4, b5, b6⟩ := hA i (by omega)
  obtain ⟨g1, g2, g3, g4⟩ := b6 rfl
  have hcc : decide (i + 1 = (vals v.list).length) = false → hpP [44] (s.drop (nxI 6 s (posI 6 s a i)).toNat) = true := fun hd => b5 (of_decide_eq_false hd)
  have eP : posI 6 s a (i + 1) = nxI 6 s (posI 6 s a i) + 1 := rfl
  rw [vp6] at b2
  rw [nx6] at b3 b4 hcc eP ⊢
  cases i with
  | zero =>
   refine (it6_a KI RI d [c] s (posI 6 s a 0) l hl hs (by simp) b1 g1 g2 g3 g4 b2 b3 _ b4 hcc D k).trans ?_
   have eR : rwI d 6 s a 1 = [encVa (VV d s (ES s (posI 6 s a 0 + 1) + 1))] := by rw [rw_succ]; unfold rowI; rw [vp6]; rfl
   have eK : krI 6 s a 1 = [[.str (TS s (posI 6 s a 0 + 1))]] := rfl
   show cond _ _ _ = cond _ (k .ret (endX _ (heap4 s _ ++ [.arr 1 (krI 6 s a 1) 0, .arr 5 (rwI d 6 s a 1) 0]) D)) (k .normal (itS [c] l _ (heap4 s (posI 6 s a (0 + 1)) ++ [.arr 1 (krI 6 s a 1) 0, .arr 5 (rwI d 6 s a 1) 0]) D))
   rw [eR, eP, eK]
   rfl
  | succ j =>
   refine (it6_b KI RI d [c] s (posI 6 s a (j + 1)) l (j + 1) j (rwI d 6 s a (j + 1)) (krI 6 s a (j + 1)) hl hs (by simp) (rw_len d 6 s a (j + 1)).symm (by omega) (kr_len 6 s a (j + 1)).symm b1 g1 g2 g3 g4 b2 b3 _ b4 hcc D k).trans ?_
   have eR : rwI d 6 s a (j + 1 + 1) = rwI d 6 s a (j + 1) ++ [encVa (VV d s (ES s (posI 6 s a (j + 1) + 1) + 1))] := by rw [rw_succ d 6 s a (j + 1)]; unfold rowI; rw [vp6]
   have eK : krI 6 s a (j + 1 + 1) = krI 6 s a (j + 1) ++ [[.str (TS s (posI 6 s a (j + 1) + 1))]] := by rw [kr_succ 6 s a (j + 1)]; rfl
   show cond _ _ _ = cond _ (k .ret (endX _ (heap4 s _ ++ [.arr 1 (krI 6 s a (j + 1 + 1)) (j + 1), .arr 5 (rwI d 6 s a (j + 1 + 1)) (j + 1)]) D)) (k .normal (itS [c] l _ (heap4 s (posI 6 s a (j + 1 + 1)) ++ [.arr 1 (krI 6 s a (j + 1 + 1)) (j + 1), .arr 5 (rwI d 6 s a (j + 1 + 1)) (j + 1)]) D))
   rw [eR, eP, eK]
   rfl
 exact seq_runs (turn := itTn KI RI d) (n := 48) (l := [0,2,3,5,8]) (m := [5,8]) (lx := [8]) (mx := [8]) (fun _ => itV0 [c] l) (fun i => [[.int .i64 6, .int .i64 0, .str [], L6 i, L5 i], vz0]) (H6 d s a) m (e := .ret) (by simp)
  (fun i hi D k => by rw [step i (by omega) D k, dF (show ¬ i + 1 = (vals v.list).length by omega)]; rfl)
  (fun D k => by rw [step m (Nat.le_refl _) D k, dT hm]; rfl)
end Go.Mu
