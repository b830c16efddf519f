/-
  Lemmas on the given program (part 5).
-/
import Derived.Test.YtfepcpcnfibbnaaGreatDoorR4
import Derived.Test.YtfepcpcnfibbnaaGreatDoorRows
set_option linter.unusedVariables false
set_option linter.unusedSimpArgs false
set_option maxRecDepth 100000
namespace Go.Mu
open Go Go.Proofs
/- Quiet -/
structure QsA where
  s : List UInt8
  i : Nat
  H : Heap
noncomputable def quietSp (R : List UInt8 → Bool) : LSp := mkL (fun vs _ H => QsA.mk (aS vs 0) (aI vs 1).toNat H) (fun a => a.i ≤ a.s.length ∧ a.s.length ≤ 1099511627776) (fun a => [.str a.s, .int .i64 (a.i : Nat)]) (fun _ => []) (fun a => a.H)
  (fun a k => cond (R (a.s.drop a.i)) (k .ret [.bool false] [] a.H) (k (.exit 0) [.undef] [] a.H))
noncomputable def quietFH (R : List UInt8 → Bool) : FH := .of [(2, loopSpec 14 [0,3] [] [2] [] (quietSp R))]
theorem quiet_step (R : List UInt8 → Bool) (A : List UInt8 → Int → Bool) (s : List UInt8) (i : Int) (H : Heap) (D : List (FuncId × List AVal)) (k : Kont) : lturn Tryz.prog (layQ1 A) (quietFH R) 18 2 [0,3] [] [2] [] (stL 14 [0,3] [.str s, .int .i64 i] [] [] H D) k = (
 let c0 : Bool := decide (i < (↑s.length : Int));
  bif c0 then
  bif decide (0 ≤ i) && c0 then
  bif A [60, 62, 38, 39, 34, 47, 33, 45, 96, 10, 13, 0] (↑(s.getD i.toNat 0).toNat : Int) then
  k AExit.ret (stL 14 [2] [AVal.bool false] [] [] H D)
  else k AExit.normal (stL 14 [0, 3] [AVal.str s, AVal.int IntKind.i64 (IntKind.i64.wrap (i + 1))] [] [] H D)
  else none
  else k (AExit.exit 0) (stL 14 [2] [AVal.undef] [] [] H D)) := by kernel_rfl
noncomputable def layQu (A : List UInt8 → Int → Bool) (R : List UInt8 → Bool) : Lay := (layQ1 A).addL 18 (quietFH R)
theorem quiet_fun (A : List UInt8 → Int → Bool) (R : List UInt8 → Bool) (s : List UInt8) (k : Out → Ans) : iFun Tryz.prog ((layQu A R).hd Tryz.prog) (layQu A R).fhs 0 18 [.str s] [] k = (
  bif
  tst
  ((Int.toNat 0 ≤ s.length ∧ s.length ≤ 1099511627776) ∧
  SubTL [AVal.str s, AVal.int IntKind.i64 0] [AVal.str s, AVal.int IntKind.i64 (↑(Int.toNat 0) : Int)] ∧
  ([] : List (List AVal)) = [] ∧ ([] : Heap) = []) then
  bif R (List.drop (Int.toNat 0) s) then k (Out.ret (AVal.bool false) []) else k (Out.ret (AVal.bool true) [])
  else none) := by kernel_rfl
/- Lower -/
abbrev LoQ := List UInt8 → List (List AVal)
noncomputable def loqSp (R : LoQ) : LSp := mkL (fun vs _ H => (aS vs 0, (aI vs 2).toNat)) (fun x => x.2 = 0 ∧ x.1.length ≤ 1099511627776) (fun x => [.str x.1, nilList, .int .i64 (x.2 : Nat)]) (fun _ => []) (fun _ => [])
  (fun x k => cond (x.1 == []) (k (.exit 0) [nilList] [] []) (k (.exit 0) [.own 0 0 x.1.length (x.1.length - 1) false] [] [.arr 1 (R x.1) (x.1.length - 1)]))
noncomputable def loqFH (R : LoQ) : FH := .of [(3, loopSpec 30 [0,3,4] [] [3] [] (loqSp R))]
theorem loq_s0 (R : LoQ) (s : List UInt8) (i : Int) (D : List (FuncId × List AVal)) (k : Kont) : lturn Tryz.prog Lay.nil (loqFH R) 44 3 [0,3,4] [] [3] [] (stL 30 [0,3,4] [.str s, nilList, .int .i64 i] [] [] [] D) k = (
 let c0 : Bool := decide (i < (↑s.length : Int));
 let n1 : Int := (↑(s.getD i.toNat 0).toNat : Int);
  bif c0 then
  bif decide (0 ≤ i) && c0 then
  bif bif decide (n1 ≥ 65) then decide (n1 ≤ 90) else false then
  k AExit.normal
  (stL 30 [0, 3, 4] [AVal.str s, AVal.own 0 0 (0 + 1) 0 false, AVal.int IntKind.i64 (IntKind.i64.wrap (i + 1))] []
  [] [Obj.arr 1 [[AVal.int IntKind.u8 (IntKind.u8.wrap (IntKind.u8.wrap (n1 - 65) + 97))]] 0] D)
  else
  k AExit.normal
  (stL 30 [0, 3, 4] [AVal.str s, AVal.own 0 0 (0 + 1) 0 false, AVal.int IntKind.i64 (IntKind.i64.wrap (i + 1))] []
  [] [Obj.arr 1 [[AVal.int IntKind.u8 n1]] 0] D)
  else none
  else k (AExit.exit 0) (stL 30 [3] [AVal.list true 0 fun (x : Nat) => []] [] [] [] D)) := by kernel_rfl
theorem loq_s1 (R : LoQ) (s : List UInt8) (i : Int) (q v : Nat) (rows : List (List AVal)) (D : List (FuncId × List AVal)) (k : Kont) : lturn Tryz.prog Lay.nil (loqFH R) 44 3 [0,3,4] [] [3] [] (stL 30 [0,3,4] [.str s, .own 0 0 q v false, .int .i64 i] [] [] [.arr 1 rows v] D) k = (
 let c0 : Bool := decide (i < (↑s.length : Int));
 let n1 : Int := (↑(s.getD i.toNat 0).toNat : Int);
 let m2 : Nat := q + 1;
 let c3 : Bool := v == v && q == rows.length && decide ((2 * m2 + 1000) * 1 ≤ 281474976710656) && true;
 let m4 : Nat := v + 1;
  bif c0 then
  bif decide (0 ≤ i) && c0 then
  bif bif decide (n1 ≥ 65) then decide (n1 ≤ 90) else false then
  bif c3 then
  k AExit.normal
  (stL 30 [0, 3, 4] [AVal.str s, AVal.own 0 0 m2 m4 false, AVal.int IntKind.i64 (IntKind.i64.wrap (i + 1))] []
  [] [Obj.arr 1 (rows.append [[AVal.int IntKind.u8 (IntKind.u8.wrap (IntKind.u8.wrap (n1 - 65) + 97))]]) m4]
  D)
  else none
  else
  bif c3 then
  k AExit.normal
  (stL 30 [0, 3, 4] [AVal.str s, AVal.own 0 0 m2 m4 false, AVal.int IntKind.i64 (IntKind.i64.wrap (i + 1))] []
  [] [Obj.arr 1 (rows.append [[AVal.int IntKind.u8 n1]]) m4] D)
  else none
  else none
  else k (AExit.exit 0) (stL 30 [3] [AVal.own 0 0 q v false] [] [] [Obj.arr 1 rows v] D)) := by kernel_rfl
noncomputable def layLo (R : LoQ) : Lay := Lay.nil.addL 44 (loqFH R)
theorem loq_fun (R : LoQ) (s : List UInt8) (k : Out → Ans) : iFun Tryz.prog ((layLo R).hd Tryz.prog) (layLo R).fhs 0 44 [.str s] [] k = (
 let m0 : Nat := s.length - 1;
  bif
  tst
  ((Int.toNat 0 = 0 ∧ s.length ≤ 1099511627776) ∧
  SubTL [AVal.str s, AVal.list true 0 fun (x : Nat) => [], AVal.int IntKind.i64 0]
  [AVal.str s, AVal.list true 0 fun (x : Nat) => [], AVal.int IntKind.i64 (↑(Int.toNat 0) : Int)] ∧
  ([] : List (List AVal)) = [] ∧ ([] : Heap) = []) then
  bif s == [] then k (Out.ret (AVal.str []) [])
  else
  bif
  m0 == m0 && true && decide (0 + s.length ≤ (R s).length) &&
  (List.take s.length (List.drop 0 (R s))).all fun (r : List AVal) =>
  match r with
  | [v] => isInt IntKind.u8 v
  | x => false then
  k
  (Out.ret
  (AVal.str
  (List.map (fun (r : List AVal) => UInt8.ofNat (intOf (r.getD 0 AVal.undef)).toNat)
  (List.take s.length (List.drop 0 (R s)))))
  [Obj.arr 1 (R s) m0])
  else none
  else none) := by kernel_rfl
/- Decode -/
noncomputable def layDq (W : List UInt8 → List UInt8 × Nat) : Lay := Lay.nil.addF 42 (oneQTold W)
abbrev DeQ := List UInt8 → List UInt8 × Nat
noncomputable def deqSp (R : DeQ) : LSp := mkL (fun vs _ H => (aS vs 0, (aI vs 2).toNat)) (fun x => x.2 = 0 ∧ x.1.length ≤ 268435456) (fun x => [.str x.1, nilList, .int .i64 (x.2 : Nat)]) (fun _ => []) (fun _ => [])
  (fun x k => cond ((R x.1).1 == []) (k (.exit 0) [nilList] [] []) (k (.exit 0) [.own 0 0 (R x.1).1.length (R x.1).2 false] [] [.arr 1 ((R x.1).1.map byteRow) (R x.1).2]))
noncomputable def deqFH (R : DeQ) : FH := .of [(3, loopSpec 36 [0,3,4] [] [3] [] (deqSp R))]
theorem deq_s0 (R : DeQ) (W : List UInt8 → List UInt8 × Nat) (s : List UInt8) (i : Int) (D : List (FuncId × List AVal)) (k : Kont) : lturn Tryz.prog (layDq W) (deqFH R) 14 3 [0,3,4] [] [3] [] (stL 36 [0,3,4] [.str s, nilList, .int .i64 i] [] [] [] D) k = (
 let n0 : Int := (↑s.length : Int);
 let c1 : Bool := decide (i < n0);
 let c2 : Bool := decide (0 ≤ i);
 let l3 : List UInt8 := List.drop i.toNat (List.take n0.toNat s);
 let n4 : Int := (↑(W l3).snd : Int);
 let m5 : Nat := (List.map (fun (c : UInt8) => [AVal.int IntKind.u8 (↑c.toNat : Int)]) (W l3).fst).length;
 let m6 : Nat := 0 + m5;
  bif c1 then
  bif c2 && decide (i ≤ n0) && decide (n0 ≤ n0) then
  bif decide (l3.length ≤ 1099511627776) then
  bif n4 == 0 then
  bif c2 && c1 then
  k AExit.normal
  (stL 36 [0, 3, 4]
  [AVal.str s, AVal.own 0 0 (0 + 1) 0 false, AVal.int IntKind.i64 (IntKind.i64.wrap (i + 1))] [] []
  [Obj.arr 1 [[AVal.int IntKind.u8 (↑(s.getD i.toNat 0).toNat : Int)]] 0] D)
  else none
  else
  bif (decide (0 < m5) || true) && decide ((2 * m6 + 1000) * 1 ≤ 281474976710656) then
  k AExit.normal
  (stL 36 [0, 3, 4] [AVal.str s, AVal.own 0 0 m6 0 false, AVal.int IntKind.i64 (IntKind.i64.wrap (i + n4))] []
  [] [Obj.arr 1 (List.map (fun (c : UInt8) => [AVal.int IntKind.u8 (↑c.toNat : Int)]) (W l3).fst) 0] D)
  else none
  else none
  else none
  else k (AExit.exit 0) (stL 36 [3] [AVal.list true 0 fun (x : Nat) => []] [] [] [] D)) := by kernel_rfl
theorem deq_s1 (R : DeQ) (W : List UInt8 → List UInt8 × Nat) (s : List UInt8) (i : Int) (q v : Nat) (rows : List (List AVal)) (D : List (FuncId × List AVal)) (k : Kont) : lturn Tryz.prog (layDq W) (deqFH R) 14 3 [0,3,4] [] [3] [] (stL 36 [0,3,4] [.str s, .own 0 0 q v false, .int .i64 i] [] [] [.arr 1 rows v] D) k = (
 let n0 : Int := (↑s.length : Int);
 let c1 : Bool := decide (i < n0);
 let c2 : Bool := decide (0 ≤ i);
 let l3 : List UInt8 := List.drop i.toNat (List.take n0.toNat s);
 let n4 : Int := (↑(W l3).snd : Int);
 let c5 : Bool := v == v && q == rows.length;
 let m6 : Nat := q + 1;
 let m7 : Nat := v + 1;
 let m8 : Nat := q + (List.map (fun (c : UInt8) => [AVal.int IntKind.u8 (↑c.toNat : Int)]) (W l3).fst).length;
  bif c1 then
  bif c2 && decide (i ≤ n0) && decide (n0 ≤ n0) then
  bif decide (l3.length ≤ 1099511627776) then
  bif n4 == 0 then
  bif c2 && c1 then
  bif c5 && decide ((2 * m6 + 1000) * 1 ≤ 281474976710656) && true then
  k AExit.normal
  (stL 36 [0, 3, 4] [AVal.str s, AVal.own 0 0 m6 m7 false, AVal.int IntKind.i64 (IntKind.i64.wrap (i + 1))]
  [] [] [Obj.arr 1 (rows.append [[AVal.int IntKind.u8 (↑(s.getD i.toNat 0).toNat : Int)]]) m7] D)
  else none
  else none
  else
  bif c5 && decide ((2 * m8 + 1000) * 1 ≤ 281474976710656) && true then
  k AExit.normal
  (stL 36 [0, 3, 4] [AVal.str s, AVal.own 0 0 m8 m7 false, AVal.int IntKind.i64 (IntKind.i64.wrap (i + n4))]
  [] []
  [Obj.arr 1 (rows.append (List.map (fun (c : UInt8) => [AVal.int IntKind.u8 (↑c.toNat : Int)]) (W l3).fst))
  m7]
  D)
  else none
  else none
  else none
  else k (AExit.exit 0) (stL 36 [3] [AVal.own 0 0 q v false] [] [] [Obj.arr 1 rows v] D)) := by kernel_rfl
noncomputable def layDr (W : List UInt8 → List UInt8 × Nat) (R : DeQ) : Lay := (layDq W).addL 14 (deqFH R)
theorem deq_fun (W : List UInt8 → List UInt8 × Nat) (R : DeQ) (s : List UInt8) (k : Out → Ans) : iFun Tryz.prog ((layDr W R).hd Tryz.prog) (layDr W R).fhs 0 14 [.str s] [] k = (
 let l0 : List UInt8 := (R s).fst;
 let m1 : Nat := (R s).snd;
 let m2 : Nat := l0.length;
  bif
  tst
  ((Int.toNat 0 = 0 ∧ s.length ≤ 268435456) ∧
  SubTL [AVal.str s, AVal.list true 0 fun (x : Nat) => [], AVal.int IntKind.i64 0]
  [AVal.str s, AVal.list true 0 fun (x : Nat) => [], AVal.int IntKind.i64 (↑(Int.toNat 0) : Int)] ∧
  ([] : List (List AVal)) = [] ∧ ([] : Heap) = []) then
  bif l0 == [] then k (Out.ret (AVal.str []) [])
  else
  bif
  m1 == m1 && true &&
  decide (0 + m2 ≤ (List.map (fun (c : UInt8) => [AVal.int IntKind.u8 (↑c.toNat : Int)]) l0).length) &&
  (List.take m2 (List.drop 0 (List.map (fun (c : UInt8) => [AVal.int IntKind.u8 (↑c.toNat : Int)]) l0))).all
  fun (r : List AVal) =>
  match r with
  | [v] => isInt IntKind.u8 v
  | x => false then
  k
  (Out.ret
  (AVal.str
  (List.map (fun (r : List AVal) => UInt8.ofNat (intOf (r.getD 0 AVal.undef)).toNat)
  (List.take m2 (List.drop 0 (List.map (fun (c : UInt8) => [AVal.int IntKind.u8 (↑c.toNat : Int)]) l0)))))
  [Obj.arr 1 (List.map (fun (c : UInt8) => [AVal.int IntKind.u8 (↑c.toNat : Int)]) l0) m1])
  else none
  else none) := by kernel_rfl
/- Scheme -/
noncomputable def layQ9 (L : List UInt8 → List UInt8) : Lay := Lay.nil.addF 44 (mkFS [.s] (fun xs => decide ((aS xs 0).length ≤ 1099511627776)) (fun xs k => k (.ret (.str (L (aS xs 0))) [])))
abbrev ScQ := List UInt8 → Nat → Bool × List UInt8 × Bool
noncomputable def scqSp (R : ScQ) : LSp := mkL (fun vs _ H => QsA.mk (aS vs 0) (aI vs 1).toNat H) (fun a => a.i ≤ a.s.length ∧ a.s.length ≤ 1099511627776) (fun a => [.str a.s, .int .i64 (a.i : Nat)]) (fun _ => []) (fun a => a.H)
  (fun a k => cond (R a.s a.i).1 (k .ret [.str (R a.s a.i).2.1, .bool (R a.s a.i).2.2] [] a.H) (k (.exit 0) [.undef, .undef] [] a.H))
noncomputable def scqFH (R : ScQ) : FH := .of [(2, loopSpec 24 [0,4] [] [2,3] [] (scqSp R))]
theorem scq_step (R : ScQ) (L : List UInt8 → List UInt8) (s : List UInt8) (i : Int) (H : Heap) (D : List (FuncId × List AVal)) (k : Kont) : lturn Tryz.prog (layQ9 L) (scqFH R) 16 2 [0,4] [] [2,3] [] (stL 24 [0,4] [.str s, .int .i64 i] [] [] H D) k = (
 let n0 : Int := (↑s.length : Int);
 let c1 : Bool := decide (i < n0);
 let c2 : Bool := decide (0 ≤ i);
 let n3 : Int := (↑(s.getD i.toNat 0).toNat : Int);
 let l4 : List UInt8 := List.drop (Int.toNat 0) (List.take i.toNat s);
 let c5 : Bool := n3 == 47;
 let c6 : Bool := n3 == 63;
  bif c1 then
  bif c2 && c1 then
  bif n3 == 58 then
  bif c2 && decide (i ≤ n0) then
  bif decide (l4.length ≤ 1099511627776) then
  k AExit.ret (stL 24 [2, 3] [AVal.str (L l4), AVal.bool true] [] [] H D)
  else none
  else none
  else
  bif c5 then
  bif c5 then k AExit.ret (stL 24 [2, 3] [AVal.str [], AVal.bool false] [] [] H D)
  else k AExit.normal (stL 24 [0, 4] [AVal.str s, AVal.int IntKind.i64 (IntKind.i64.wrap (i + 1))] [] [] H D)
  else
  bif c6 then
  bif c6 then k AExit.ret (stL 24 [2, 3] [AVal.str [], AVal.bool false] [] [] H D)
  else k AExit.normal (stL 24 [0, 4] [AVal.str s, AVal.int IntKind.i64 (IntKind.i64.wrap (i + 1))] [] [] H D)
  else
  bif n3 == 35 then k AExit.ret (stL 24 [2, 3] [AVal.str [], AVal.bool false] [] [] H D)
  else k AExit.normal (stL 24 [0, 4] [AVal.str s, AVal.int IntKind.i64 (IntKind.i64.wrap (i + 1))] [] [] H D)
  else none
  else k (AExit.exit 0) (stL 24 [2, 3] [AVal.undef, AVal.undef] [] [] H D)) := by kernel_rfl
noncomputable def layQa (L : List UInt8 → List UInt8) (R : ScQ) : Lay := (layQ9 L).addL 16 (scqFH R)
theorem scq_fun (L : List UInt8 → List UInt8) (R : ScQ) (s : List UInt8) (k : Out → Ans) : iFun Tryz.prog ((layQa L R).hd Tryz.prog) (layQa L R).fhs 0 16 [.str s] [] k = (
  bif
  tst
  ((Int.toNat 0 ≤ s.length ∧ s.length ≤ 1099511627776) ∧
  SubTL [AVal.str s, AVal.int IntKind.i64 0] [AVal.str s, AVal.int IntKind.i64 (↑(Int.toNat 0) : Int)] ∧
  ([] : List (List AVal)) = [] ∧ ([] : Heap) = []) then
  bif (R s (Int.toNat 0)).fst then
  k (Out.ret (AVal.tuple [AVal.str (R s (Int.toNat 0)).snd.fst, AVal.bool (R s (Int.toNat 0)).snd.snd]) [])
  else k (Out.ret (AVal.tuple [AVal.str [], AVal.bool false]) [])
  else none) := by kernel_rfl
/- Find -/
structure FiA where
  s : List UInt8
  p : List UInt8
  i : Nat
  H : Heap
noncomputable def finSp (R : List UInt8 → List UInt8 → Nat → Option Nat) : LSp := mkL (fun vs _ H => FiA.mk (aS vs 0) (aS vs 1) (aI vs 2).toNat H) (fun a => a.i ≤ a.s.length ∧ a.s.length ≤ 1099511627776 ∧ 1 ≤ a.p.length ∧ a.p.length ≤ 1099511627776) (fun a => [.str a.s, .str a.p, .int .i64 (a.i : Nat)]) (fun _ => []) (fun a => a.H)
  (fun a k => cond (R a.s a.p a.i).isSome (k .ret [.int .i64 ((R a.s a.p a.i).getD 0 : Nat)] [] a.H) (k (.exit 0) [.undef] [] a.H))
noncomputable def finFH (R : List UInt8 → List UInt8 → Nat → Option Nat) : FH := .of [(2, loopSpec 25 [0,1,5] [] [4] [] (finSp R))]
theorem fin_step (R : List UInt8 → List UInt8 → Nat → Option Nat) (s p : List UInt8) (i : Int) (H : Heap) (D : List (FuncId × List AVal)) (k : Kont) : lturn Tryz.prog Lay.nil (finFH R) 47 2 [0,1,5] [] [4] [] (stL 25 [0,1,5] [.str s, .str p, .int .i64 i] [] [] H D) k = (
 let n0 : Int := IntKind.i64.wrap (i + (↑p.length : Int));
 let c1 : Bool := decide (n0 ≤ (↑s.length : Int));
  bif c1 then
  bif decide (0 ≤ i) && decide (i ≤ n0) && c1 then
  bif List.drop i.toNat (List.take n0.toNat s) == p then k AExit.ret (stL 25 [4] [AVal.int IntKind.i64 i] [] [] H D)
  else
  k AExit.normal
  (stL 25 [0, 1, 5] [AVal.str s, AVal.str p, AVal.int IntKind.i64 (IntKind.i64.wrap (i + 1))] [] [] H D)
  else none
  else k (AExit.exit 0) (stL 25 [4] [AVal.undef] [] [] H D)) := by kernel_rfl
noncomputable def layQf (R : List UInt8 → List UInt8 → Nat → Option Nat) : Lay := Lay.nil.addL 47 (finFH R)
theorem fin_fun (R : List UInt8 → List UInt8 → Nat → Option Nat) (s p : List UInt8) (k : Out → Ans) : iFun Tryz.prog ((layQf R).hd Tryz.prog) (layQf R).fhs 0 47 [.str s, .str p] [] k = (
  bif
  tst
  ((Int.toNat 0 ≤ s.length ∧ s.length ≤ 1099511627776 ∧ 1 ≤ p.length ∧ p.length ≤ 1099511627776) ∧
  SubTL [AVal.str s, AVal.str p, AVal.int IntKind.i64 0]
  [AVal.str s, AVal.str p, AVal.int IntKind.i64 (↑(Int.toNat 0) : Int)] ∧
  ([] : List (List AVal)) = [] ∧ ([] : Heap) = []) then
  bif (R s p (Int.toNat 0)).isSome then k (Out.ret (AVal.int IntKind.i64 (↑((R s p (Int.toNat 0)).getD 0) : Int)) [])
  else k (Out.ret (AVal.int IntKind.i64 (-1)) [])
  else none) := by kernel_rfl
/- Styled -/
def findTold (F : List UInt8 → List UInt8 → Int) : FSp := mkFS [.s, .s] (fun xs => decide ((aS xs 0).length ≤ 1099511627776 ∧ 1 ≤ (aS xs 1).length ∧ (aS xs 1).length ≤ 1099511627776)) (fun xs k => k (.ret (.int .i64 (F (aS xs 0) (aS xs 1))) []))
noncomputable def layQs (A : List UInt8 → Int → Bool) (L : List UInt8 → List UInt8) (F : List UInt8 → List UInt8 → Int) : Lay := ((layQ1 A).addF 44 (mkFS [.s] (fun xs => decide ((aS xs 0).length ≤ 1099511627776)) (fun xs k => k (.ret (.str (L (aS xs 0))) [])))).addF 47 (findTold F)
structure StyA where
  s : List UInt8
  t : List UInt8
  i : Nat
  H : Heap
noncomputable def stySp (R : List UInt8 → Bool) : LSp := mkL (fun vs _ H => StyA.mk (aS vs 0) (aS vs 1) (aI vs 2).toNat H) (fun a => a.i ≤ a.t.length ∧ a.t.length ≤ 1099511627776) (fun a => [.str a.s, .str a.t, .int .i64 (a.i : Nat)]) (fun _ => []) (fun a => a.H)
  (fun a k => cond (R (a.t.drop a.i)) (k .ret [.str a.s, .bool false, .str a.t] [] a.H) (k (.exit 0) [.str a.s, .undef, .str a.t] [] a.H))
noncomputable def styFH (R : List UInt8 → Bool) : FH := .of [(3, loopSpec 45 [0,3,4] [] [0,2,3] [] (stySp R))]
theorem sty_step (R : List UInt8 → Bool) (A : List UInt8 → Int → Bool) (L : List UInt8 → List UInt8) (F : List UInt8 → List UInt8 → Int) (s t : List UInt8) (i : Int) (H : Heap) (D : List (FuncId × List AVal)) (k : Kont) : lturn Tryz.prog (layQs A L F) (styFH R) 19 3 [0,3,4] [] [0,2,3] [] (stL 45 [0,3,4] [.str s, .str t, .int .i64 i] [] [] H D) k = (
 let c0 : Bool := decide (i < (↑t.length : Int));
 let c1 : Bool := decide (0 ≤ i) && c0;
 let n2 : Int := (↑(t.getD i.toNat 0).toNat : Int);
 let c3 : Bool := !rLtr n2;
 let c4 : Bool := bif c3 then !rDgt n2 else false;
  bif c0 then
  bif c1 then
  bif c1 || !c3 then
  bif c1 || !c4 then
  bif bif c4 then !A [32, 46, 44, 37, 35, 43, 45] n2 else false then
  k AExit.ret (stL 45 [0, 2, 3] [AVal.str s, AVal.bool false, AVal.str t] [] [] H D)
  else
  k AExit.normal
  (stL 45 [0, 3, 4] [AVal.str s, AVal.str t, AVal.int IntKind.i64 (IntKind.i64.wrap (i + 1))] [] [] H D)
  else none
  else none
  else none
  else k (AExit.exit 0) (stL 45 [0, 2, 3] [AVal.str s, AVal.undef, AVal.str t] [] [] H D)) := by kernel_rfl
noncomputable def layQt (A : List UInt8 → Int → Bool) (L : List UInt8 → List UInt8) (F : List UInt8 → List UInt8 → Int) (R : List UInt8 → Bool) : Lay := (layQs A L F).addL 19 (styFH R)
theorem sty_fun (A : List UInt8 → Int → Bool) (L : List UInt8 → List UInt8) (F : List UInt8 → List UInt8 → Int) (R : List UInt8 → Bool) (s : List UInt8) (k : Out → Ans) : iFun Tryz.prog ((layQt A L F R).hd Tryz.prog) (layQt A L F R).fhs 0 19 [.str s] [] k = (
  bif decide (s.length ≤ 1099511627776) then
  bif
  tst
  ((Int.toNat 0 ≤ (L s).length ∧ (L s).length ≤ 1099511627776) ∧
  SubTL [AVal.str s, AVal.str (L s), AVal.int IntKind.i64 0]
  [AVal.str s, AVal.str (L s), AVal.int IntKind.i64 (↑(Int.toNat 0) : Int)] ∧
  ([] : List (List AVal)) = [] ∧ ([] : Heap) = []) then
  bif R (List.drop (Int.toNat 0) (L s)) then k (Out.ret (AVal.bool false) [])
  else
  bif decide ((L s).length ≤ 1099511627776 ∧ 1 ≤ 10 ∧ 10 ≤ 1099511627776) then
  bif decide ((L s).length ≤ 1099511627776 ∧ 1 ≤ 3 ∧ 3 ≤ 1099511627776) then
  k
  (Out.ret
  (AVal.bool
  (bif
  bif decide ((↑s.length : Int) ≤ 4096) then
  decide (F (L s) [101, 120, 112, 114, 101, 115, 115, 105, 111, 110] < 0)
  else false then
  decide (F (L s) [117, 114, 108] < 0)
  else false))
  [])
  else none
  else none
  else none
  else none) := by kernel_rfl
end Go.Mu
set_option linter.unusedVariables false
set_option linter.unusedSimpArgs false
set_option maxRecDepth 100000
namespace Go.Mu
open Go Go.Proofs
theorem any_runs {turn : St → Kont → Ans} {n : Nat} {L LX : List Nat} {vs : Nat → List AVal} {w0 w1 : List AVal} {H : Heap} {e : Nat} {l : List UInt8} {p : UInt8 → Bool}
    (h : ∀ (i : Nat) (D : List (FuncId × List AVal)) (k : Kont), i ≤ l.length → turn (stL n L (vs i) [] [] H D) k = bif decide (i < l.length) then (bif p (l.getD i 0) then k .ret (stL n LX w1 [] [] H D) else k .normal (stL n L (vs (i + 1)) [] [] H D)) else k (.exit e) (stL n LX w0 [] [] H D)) :
    ∀ (m i : Nat), l.length - i ≤ m → i ≤ l.length → ((l.drop i).any p = true → LoopRuns turn n L [] LX [] (vs i) [] H .ret w1 [] H) ∧ ((l.drop i).any p = false → LoopRuns turn n L [] LX [] (vs i) [] H (.exit e) w0 [] H)
  | 0, i, hm, hi => by
    have e0 : l.drop i = [] := List.drop_eq_nil_of_le (by omega)
    rw [e0]
    refine ⟨(fun h => by cases h), fun _ => .stop (by simp) (fun D k => ?_)⟩
    rw [h i D k hi, dF (by omega)]; rfl
  | m + 1, i, hm, hi => by
    by_cases hlt : i < l.length
    · have ed := drop_cons_of l i 0 hlt
      have ih := any_runs h m (i + 1) (by omega) (by omega)
      rw [ed, List.any_cons]
      cases hp : p (l.getD i 0) with
      | true => exact ⟨fun _ => .stop (by simp) (fun D k => by rw [h i D k hi, dT hlt, hp]; rfl), (fun h => by cases h)⟩
      | false =>
        rw [Bool.false_or]
        have st : ∀ D k, turn (stL n L (vs i) [] [] H D) k = k .normal (stL n L (vs (i + 1)) [] [] H D) := fun D k => by rw [h i D k hi, dT hlt, hp]; rfl
        exact ⟨fun g => .step st (ih.1 g), fun g => .step st (ih.2 g)⟩
    · have e0 : l.drop i = [] := List.drop_eq_nil_of_le (by omega)
      rw [e0]
      refine ⟨(fun h => by cases h), fun _ => .stop (by simp) (fun D k => ?_)⟩
      rw [h i D k hi, dF hlt]; rfl
/- Quiet -/
def quP (c : UInt8) : Bool := anyI [60, 62, 38, 39, 34, 47, 33, 45, 96, 10, 13, 0] (c.toNat : Int)
theorem quietSp_ok : SpOK (lturn Tryz.prog (layQ1 anyI) (quietFH (fun l => l.any quP)) 18 2 [0,3] [] [2] []) 14 [0,3] [] [2] [] (quietSp (fun l => l.any quP)) := mkL_ok fun a h => by
  have key := any_runs (l := a.s) (p := quP) (vs := fun i => [.str a.s, .int .i64 (i : Nat)]) (w0 := [.undef]) (w1 := [.bool false]) (H := a.H) (e := 0) (turn := lturn Tryz.prog (layQ1 anyI) (quietFH (fun l => l.any quP)) 18 2 [0,3] [] [2] []) (n := 14) (L := [0,3]) (LX := [2])
    (fun i D k hi => by
      have h2 := h.2
      refine (quiet_step _ anyI a.s i a.H D k).trans ?_
      by_cases hlt : i < a.s.length
      · simp only [dT hlt, dT (show (i : Int) < a.s.length by omega), dT (show (0 : Int) ≤ i by omega), Int.toNat_natCast, Bool.and_self, cond_true, wrap_add1 (show i < 4611686018427387904 by omega)]
        rfl
      · simp only [dF hlt, dF (show ¬ (i : Int) < a.s.length by omega), cond_false]) _ a.i (Nat.le_refl _) h.1
  show ∃ e vs bs H', (∀ k : AExit → List AVal → List (List AVal) → Heap → Ans, cond ((a.s.drop a.i).any quP) _ _ = k e vs bs H') ∧ _
  cases hb : (a.s.drop a.i).any quP with
  | true => exact ⟨_, _, _, _, fun k => rfl, key.1 hb⟩
  | false => exact ⟨_, _, _, _, fun k => rfl, key.2 hb⟩
theorem layQu_ok : (layQu anyI (fun l => l.any quP)).OK Tryz.prog := layQ1_ok.loop1 (id := 2) (by kernel_rfl) (by kernel_rfl) (by kernel_rfl) quietSp_ok
theorem quP_eq (c : UInt8) : sfP c = quP c := oct256 (p := fun c => sfP c = quP c) (by decide +kernel) c
theorem quietTold_ok : ∀ xs H k out, safTold xs H k = some out → ∃ o, CallOK Tryz.prog 18 xs H o ∧ k o = some out := mkFS_ok fun ys xs e h => by
  obtain ⟨s, rfl⟩ : ∃ s, xs = [.str s] := ⟨_, e⟩
  have h2 : s.length ≤ 1099511627776 := of_decide_eq_true h
  refine ⟨_, fun k => rfl, layQu_ok.callF (G := []) rfl (fun k => (quiet_fun anyI (fun l => l.any quP) s k).trans ?_)⟩
  refine (congrArg (fun c => cond c _ none) (tst_true ⟨⟨Nat.zero_le _, h2⟩, .refl _, rfl, rfl⟩)).trans ((cond_true _ _).trans ?_)
  have e2 : safeM s = !s.any quP := by unfold safeM; rw [show sfP = quP from funext quP_eq]
  show (bif s.any quP then _ else _) = k (.ret (.bool (safeM s)) [])
  rw [e2]
  cases s.any quP <;> rfl
/- Lower -/
theorem lowC_up (c : UInt8) : (65 ≤ c.toNat ∧ c.toNat ≤ 90 → IntKind.u8.wrap (IntKind.u8.wrap ((c.toNat : Int) - 65) + 97) = ((lowC c).toNat : Int)) ∧ (¬ (65 ≤ c.toNat ∧ c.toNat ≤ 90) → lowC c = c) :=
  oct256 (p := fun c => (65 ≤ c.toNat ∧ c.toNat ≤ 90 → IntKind.u8.wrap (IntKind.u8.wrap ((c.toNat : Int) - 65) + 97) = ((lowC c).toNat : Int)) ∧ (¬ (65 ≤ c.toNat ∧ c.toNat ≤ 90) → lowC c = c)) (by decide +kernel) c
theorem low_pick {α : Type} (c : UInt8) (F : Int → α) : (bif (bif decide ((c.toNat : Int) ≥ 65) then decide ((c.toNat : Int) ≤ 90) else false) then F (IntKind.u8.wrap (IntKind.u8.wrap ((c.toNat : Int) - 65) + 97)) else F (c.toNat : Int)) = F ((lowC c).toNat : Int) := by
  obtain ⟨h1, h2⟩ := lowC_up c
  by_cases h : 65 ≤ c.toNat ∧ c.toNat ≤ 90
  · rw [dT (show (c.toNat : Int) ≥ 65 by omega), dT (show (c.toNat : Int) ≤ 90 by omega), cond_true, cond_true, h1 h]
  · rw [h2 h]
    by_cases h3 : 65 ≤ c.toNat
    · rw [dT (show (c.toNat : Int) ≥ 65 by omega), dF (show ¬ (c.toNat : Int) ≤ 90 by omega)]; rfl
    · rw [dF (show ¬ (c.toNat : Int) ≥ 65 by omega)]; rfl
def lowR : LoQ := fun s => (lowM s).map byteRow
noncomputable abbrev loqTurn := lturn Tryz.prog Lay.nil (loqFH lowR) 44 3 [0,3,4] [] [3] []
theorem map_row (l : List UInt8) (c : UInt8) : (l.map byteRow).append [[AVal.int IntKind.u8 (c.toNat : Int)]] = (l ++ [c]).map byteRow := by
  show l.map byteRow ++ [byteRow c] = _
  rw [List.map_append]; rfl
theorem loq_own (s : List UInt8) (hs : s.length ≤ 1099511627776) : ∀ (m i : Nat) (l : List UInt8) (v : Nat), s.length - i ≤ m → i ≤ s.length → l.length ≤ i →
    LoopRuns loqTurn 30 [0,3,4] [] [3] [] [.str s, .own 0 0 l.length v false, .int .i64 (i : Nat)] [] [.arr 1 (l.map byteRow) v] (.exit 0) [.own 0 0 (l ++ lowM (s.drop i)).length (v + (s.length - i)) false] [] [.arr 1 ((l ++ lowM (s.drop i)).map byteRow) (v + (s.length - i))] := by
  intro m
  induction m with
  | zero =>
    intro i l v hm hi hl
    have e : s.drop i = [] := List.drop_eq_nil_of_le (by omega)
    rw [e, show s.length - i = 0 by omega]
    show LoopRuns _ _ _ _ _ _ _ _ _ _ [.own 0 0 (l ++ []).length v false] _ [.arr 1 ((l ++ []).map byteRow) v]
    rw [List.append_nil]
    refine .stop (by simp) (fun D k => (loq_s1 lowR s i l.length v (l.map byteRow) D k).trans ?_)
    simp only [dF (show ¬ (i : Int) < s.length by omega), cond_false]
  | succ m ih =>
    intro i l v hm hi hl
    by_cases hlt : i < s.length
    · have ed := drop_cons_of s i 0 hlt
      have key := fun D k => loq_s1 lowR s i l.length v (l.map byteRow) D k
      have e1 : IntKind.i64.wrap ((i : Int) + 1) = ((i + 1 : Nat) : Int) := wrap_add1 (by omega)
      have hq : (l.length == (l.map byteRow).length) = true := by simp
      simp only [dT (show (i : Int) < s.length by omega), dT (show (0 : Int) ≤ i by omega), e1, hq, beq_self_eq_true, dT (show (2 * (l.length + 1) + 1000) * 1 ≤ 281474976710656 by omega), Bool.and_self, cond_true, Int.toNat_natCast] at key
      have key2 : ∀ D k, loqTurn (stL 30 [0,3,4] [.str s, .own 0 0 l.length v false, .int .i64 (i : Nat)] [] [] [.arr 1 (l.map byteRow) v] D) k = k .normal (stL 30 [0,3,4] [.str s, .own 0 0 (l ++ [lowC (s.getD i 0)]).length (v + 1) false, .int .i64 ((i + 1 : Nat) : Int)] [] [] [.arr 1 ((l ++ [lowC (s.getD i 0)]).map byteRow) (v + 1)] D) := fun D k => by
        refine (key D k).trans ((low_pick (s.getD i 0) (fun x => k .normal (stL 30 [0,3,4] [.str s, .own 0 0 (l.length + 1) (v + 1) false, .int .i64 ((i + 1 : Nat) : Int)] [] [] [.arr 1 ((l.map byteRow).append [[AVal.int IntKind.u8 x]]) (v + 1)] D))).trans ?_)
        rw [map_row, List.length_append]; rfl
      have ih2 := ih (i + 1) (l ++ [lowC (s.getD i 0)]) (v + 1) (by omega) (by omega) (by rw [List.length_append]; show _ + 1 ≤ _; omega)
      have e3 : l ++ lowM (s.drop i) = l ++ [lowC (s.getD i 0)] ++ lowM (s.drop (i + 1)) := by
        rw [ed, List.append_assoc]; rfl
      rw [e3, show v + (s.length - i) = v + 1 + (s.length - (i + 1)) by omega]
      exact .step key2 ih2
    · have e : s.drop i = [] := List.drop_eq_nil_of_le (by omega)
      rw [e, show s.length - i = 0 by omega]
      show LoopRuns _ _ _ _ _ _ _ _ _ _ [.own 0 0 (l ++ []).length v false] _ [.arr 1 ((l ++ []).map byteRow) v]
      rw [List.append_nil]
      refine .stop (by simp) (fun D k => (loq_s1 lowR s i l.length v (l.map byteRow) D k).trans ?_)
      simp only [dF (show ¬ (i : Int) < s.length by omega), cond_false]
theorem loqSp_ok : SpOK loqTurn 30 [0,3,4] [] [3] [] (loqSp lowR) := mkL_ok fun a h => by
  obtain ⟨s, i⟩ := a
  obtain ⟨h1, h2⟩ := h
  simp only at h1 h2
  subst h1
  show ∃ e vs bs H', (∀ k : AExit → List AVal → List (List AVal) → Heap → Ans, cond (s == []) _ _ = k e vs bs H') ∧ _
  cases s with
  | nil => exact ⟨_, _, _, _, fun k => rfl, .stop (by simp) (fun D k => (loq_s0 lowR [] 0 D k).trans rfl)⟩
  | cons c t =>
    rw [List.length_cons] at h2
    refine ⟨_, _, _, _, fun k => rfl, ?_⟩
    have key2 : ∀ D k, loqTurn (stL 30 [0,3,4] [.str (c :: t), nilList, .int .i64 ((0 : Nat) : Int)] [] [] [] D) k = k .normal (stL 30 [0,3,4] [.str (c :: t), .own 0 0 [lowC c].length 0 false, .int .i64 ((1 : Nat) : Int)] [] [] [.arr 1 ([lowC c].map byteRow) 0] D) := fun D k => by
      refine (loq_s0 lowR (c :: t) 0 D k).trans ?_
      have e0 : decide ((0 : Int) < ((c :: t).length : Int)) = true := dT (by rw [List.length_cons]; omega)
      simp only [e0, dT (show (0 : Int) ≤ 0 by omega), Bool.and_self, cond_true]
      exact (low_pick c (fun x => k .normal (stL 30 [0,3,4] [.str (c :: t), .own 0 0 1 0 false, .int .i64 1] [] [] [.arr 1 [[AVal.int IntKind.u8 x]] 0] D))).trans rfl
    have ih := loq_own (c :: t) (by rw [List.length_cons]; omega) t.length 1 [lowC c] 0 (by simp) (by simp) (by simp)
    have e3 : [lowC c] ++ lowM ((c :: t).drop 1) = lowM (c :: t) := rfl
    have e4 : (lowM (c :: t)).length = (c :: t).length := List.length_map _
    have e5 : 0 + ((c :: t).length - 1) = (c :: t).length - 1 := Nat.zero_add _
    rw [e3, e4, e5] at ih
    exact .step key2 ih
theorem layLo_ok : (layLo lowR).OK Tryz.prog := Lay.nil_ok.loop1 (id := 3) (by kernel_rfl) (by kernel_rfl) (by kernel_rfl) loqSp_ok
theorem bytes_str (l : List UInt8) : ((List.take l.length (List.drop 0 (l.map byteRow))).all fun (r : List AVal) => match r with | [v] => isInt IntKind.u8 v | x => false) = true ∧ (List.take l.length (List.drop 0 (l.map byteRow))).map (fun (r : List AVal) => UInt8.ofNat (intOf (r.getD 0 AVal.undef)).toNat) = l := by
  have e : List.take l.length (List.drop 0 (l.map byteRow)) = l.map byteRow := by rw [List.drop_zero]; exact List.take_of_length_le (by simp)
  rw [e]
  exact ⟨by_all l, by_back l⟩
theorem rlowTold_ok : ∀ xs H k out, lowTold xs H k = some out → ∃ o, CallOK Tryz.prog 44 xs H o ∧ k o = some out := mkFS_ok fun ys xs e h => by
  obtain ⟨s, rfl⟩ : ∃ s, xs = [.str s] := ⟨_, e⟩
  have h2 : s.length ≤ 1099511627776 := of_decide_eq_true h
  by_cases h0 : s = []
  · subst h0
    refine ⟨_, fun k => rfl, layLo_ok.callF (G := []) rfl (fun k => (loq_fun lowR [] k).trans ?_)⟩
    exact (congrArg (fun c => cond c _ none) (tst_true ⟨⟨rfl, Nat.zero_le _⟩, .refl _, rfl, rfl⟩)).trans rfl
  · refine ⟨_, fun k => rfl, layLo_ok.callF (G := [.arr 1 (lowR s) (s.length - 1)]) rfl (fun k => (loq_fun lowR s k).trans ?_)⟩
    refine (congrArg (fun c => cond c _ none) (tst_true ⟨⟨rfl, h2⟩, .refl _, rfl, rfl⟩)).trans ((cond_true _ _).trans ?_)
    have hb : (s == []) = false := by simpa using h0
    rw [hb, cond_false]
    obtain ⟨g1, g2⟩ := bytes_str (lowM s)
    have hl : (lowM s).length = s.length := List.length_map _
    rw [hl] at g1 g2
    have hc : ((s.length - 1 == s.length - 1) && true && decide (0 + s.length ≤ (lowR s).length) && (List.take s.length (List.drop 0 ((lowM s).map byteRow))).all fun (r : List AVal) => match r with | [v] => isInt IntKind.u8 v | x => false) = true := by
      rw [g1, beq_self_eq_true, dT (show 0 + s.length ≤ (lowR s).length by unfold lowR; rw [List.length_map, hl]; omega)]
      rfl
    refine (congrArg (fun c => cond c _ none) hc).trans ((cond_true _ _).trans ?_)
    exact congrArg (fun t => k (Out.ret (AVal.str t) [.arr 1 (lowR s) (s.length - 1)])) g2
end Go.Mu
set_option linter.unusedVariables false
set_option linter.unusedSimpArgs false
set_option maxRecDepth 100000
namespace Go.Mu
open Go Go.Proofs
/- Scheme -/
def scF (s : List UInt8) : Nat → List UInt8 → Bool × List UInt8 × Bool
  | _, [] => (false, [], false)
  | i, c :: l => bif c == 58 then (true, lowM (s.take i), true) else bif c == 47 || c == 63 || c == 35 then (true, [], false) else scF s (i + 1) l
def scQ : ScQ := fun s i => scF s i (s.drop i)
noncomputable abbrev scqTurn := lturn Tryz.prog (layQ9 lowM) (scqFH scQ) 16 2 [0,4] [] [2,3] []
theorem scq_runs (s : List UInt8) (hs : s.length ≤ 1099511627776) (H : Heap) : ∀ (m i : Nat), s.length - i ≤ m → i ≤ s.length →
    ((scQ s i).1 = true → LoopRuns scqTurn 24 [0,4] [] [2,3] [] [.str s, .int .i64 (i : Nat)] [] H .ret [.str (scQ s i).2.1, .bool (scQ s i).2.2] [] H) ∧
    ((scQ s i).1 = false → LoopRuns scqTurn 24 [0,4] [] [2,3] [] [.str s, .int .i64 (i : Nat)] [] H (.exit 0) [.undef, .undef] [] H) := by
  intro m
  induction m with
  | zero =>
    intro i hm hi
    have e : scQ s i = (false, [], false) := by unfold scQ; rw [List.drop_eq_nil_of_le (by omega)]; rfl
    rw [e]
    refine ⟨(fun h => by cases h), fun _ => .stop (by simp) (fun D k => (scq_step scQ lowM s i H D k).trans ?_)⟩
    simp only [dF (show ¬ (i : Int) < s.length by omega), cond_false]
  | succ m ih =>
    intro i hm hi
    by_cases hlt : i < s.length
    · have ed := drop_cons_of s i 0 hlt
      have key := fun D k => scq_step scQ lowM s i H D k
      have e1 : IntKind.i64.wrap ((i : Int) + 1) = ((i + 1 : Nat) : Int) := wrap_add1 (by omega)
      have et : List.drop (Int.toNat 0) (List.take i s) = s.take i := rfl
      have hl : (s.take i).length ≤ 1099511627776 := by rw [List.length_take]; omega
      simp only [dT (show (i : Int) < s.length by omega), dT (show (0 : Int) ≤ i by omega), dT (show (i : Int) ≤ s.length by omega), e1, Int.toNat_natCast, et, dT hl, Bool.and_self, cond_true, eqc (show 58 < 256 by decide), eqc (show 47 < 256 by decide), eqc (show 63 < 256 by decide), eqc (show 35 < 256 by decide)] at key
      have eQ : scQ s i = bif s.getD i 0 == 58 then (true, lowM (s.take i), true) else bif s.getD i 0 == 47 || s.getD i 0 == 63 || s.getD i 0 == 35 then (true, [], false) else scQ s (i + 1) := by unfold scQ; rw [ed]; rfl
      rw [eQ]
      have ih2 := ih (i + 1) (by omega) (by omega)
      cases h58 : s.getD i 0 == 58 with
      | true =>
        simp only [h58, cond_true] at key ⊢
        exact ⟨fun _ => .stop (by simp) key, (fun h => by cases h)⟩
      | false =>
      cases h47 : s.getD i 0 == 47 with
      | true =>
        simp only [h58, h47, cond_true, cond_false, Bool.true_or] at key ⊢
        exact ⟨fun _ => .stop (by simp) key, (fun h => by cases h)⟩
      | false =>
      cases h63 : s.getD i 0 == 63 with
      | true =>
        simp only [h58, h47, h63, cond_true, cond_false, Bool.or_true, Bool.true_or] at key ⊢
        exact ⟨fun _ => .stop (by simp) key, (fun h => by cases h)⟩
      | false =>
      cases h35 : s.getD i 0 == 35 with
      | true =>
        simp only [h58, h47, h63, h35, cond_true, cond_false, Bool.or_true, Bool.true_or] at key ⊢
        exact ⟨fun _ => .stop (by simp) key, (fun h => by cases h)⟩
      | false =>
        simp only [h58, h47, h63, h35, cond_true, cond_false, Bool.or_self] at key ⊢
        exact ⟨fun h => .step key (ih2.1 h), fun h => .step key (ih2.2 h)⟩
    · have e : scQ s i = (false, [], false) := by unfold scQ; rw [List.drop_eq_nil_of_le (by omega)]; rfl
      rw [e]
      refine ⟨(fun h => by cases h), fun _ => .stop (by simp) (fun D k => (scq_step scQ lowM s i H D k).trans ?_)⟩
      simp only [dF (show ¬ (i : Int) < s.length by omega), cond_false]
theorem scqSp_ok : SpOK scqTurn 24 [0,4] [] [2,3] [] (scqSp scQ) := mkL_ok fun a h => by
  have key := scq_runs a.s h.2 a.H _ a.i (Nat.le_refl _) h.1
  show ∃ e vs bs H', (∀ k : AExit → List AVal → List (List AVal) → Heap → Ans, cond (scQ a.s a.i).1 _ _ = k e vs bs H') ∧ _
  cases hb : (scQ a.s a.i).1 with
  | true => exact ⟨_, _, _, _, fun k => rfl, key.1 hb⟩
  | false => exact ⟨_, _, _, _, fun k => rfl, key.2 hb⟩
theorem layQ9_ok : (layQ9 lowM).OK Tryz.prog := Lay.nil_ok.addF rlowTold_ok
theorem layQa_ok : (layQa lowM scQ).OK Tryz.prog := layQ9_ok.loop1 (id := 2) (by kernel_rfl) (by kernel_rfl) (by kernel_rfl) scqSp_ok
theorem scP_eq (c : UInt8) : scP c = (c == 47 || c == 63 || c == 35) := oct256 (p := fun c => scP c = (c == 47 || c == 63 || c == 35)) (by decide +kernel) c
theorem scF_eq (s : List UInt8) : ∀ (l p : List UInt8), s = p ++ l → p.any (fun c => c == 58 || scP c) = false → (bif (scF s p.length l).1 then ((scF s p.length l).2.1, (scF s p.length l).2.2) else ([], false)) = schemeM s
  | [], p, hs, hp => by
    have hn : ibM s 58 < 0 := by
      have h1 := ib_any s 58
      have h2 : s.any (fun d => d == 58) = false := by
        rw [hs, List.append_nil]
        rw [List.any_eq_false] at hp ⊢
        intro c hc
        have := hp c hc
        simp only [Bool.or_eq_true, not_or] at this
        exact this.1
      rw [h2] at h1
      have := of_decide_eq_false h1
      show Lib.indexByte s 58 < 0
      omega
    unfold schemeM
    rw [dT hn]; rfl
  | c :: l, p, hs, hp => by
    rw [scF]
    have hlen : s.take p.length = p := by rw [hs]; exact List.take_left
    cases h58 : c == 58 with
    | true =>
      have hc : c = 58 := by simpa using h58
      subst hc
      have hib : ibM s 58 = (p.length : Nat) := by
        show Lib.indexByte s 58 = _
        rcases ib_split s 58 with ⟨h1, h2⟩ | ⟨p', q, h1, h2, h3⟩
        · exact absurd (by rw [hs]; simp) h2
        · rw [h3]
          have hp58 : (58 : UInt8) ∉ p := fun hm => by
            rw [List.any_eq_false] at hp
            have := hp 58 hm
            simp at this
          have : p'.length = p.length := by
            rcases Nat.lt_trichotomy p'.length p.length with hh | hh | hh
            · exfalso
              apply hp58
              have e1 : s[p'.length]? = some 58 := by rw [h1]; simp
              rw [hs, List.getElem?_append_left hh] at e1
              exact List.mem_of_getElem? e1
            · exact hh
            · exfalso
              apply h2
              have e1 : s[p.length]? = some 58 := by rw [hs]; simp
              rw [h1, List.getElem?_append_left hh] at e1
              exact List.mem_of_getElem? e1
          omega
      unfold schemeM
      rw [hib, dF (show ¬ ((p.length : Nat) : Int) < 0 by omega), Int.toNat_natCast, hlen, Bool.false_or]
      have hsp : p.any scP = false := by
        rw [List.any_eq_false] at hp ⊢
        intro d hd
        have := hp d hd
        simp only [Bool.or_eq_true, not_or] at this
        exact this.2
      rw [hsp]; rfl
    | false =>
      rw [cond_false]
      cases h3 : c == 47 || c == 63 || c == 35 with
      | true =>
        have hsc : scP c = true := by rw [scP_eq, h3]
        show ([], false) = schemeM s
        unfold schemeM
        by_cases hn : ibM s 58 < 0
        · rw [dT hn]; rfl
        · rw [dF hn, Bool.false_or]
          have hmem : (s.take (ibM s 58).toNat).any scP = true := by
            rcases ib_split s 58 with ⟨h1, h2⟩ | ⟨p', q, h1, h2, h4⟩
            · exfalso
              have : ibM s 58 = -1 := h1
              omega
            · have hib : ibM s 58 = (p'.length : Nat) := h4
              rw [hib, Int.toNat_natCast]
              have hlt : p.length < p'.length := by
                rcases Nat.lt_or_ge p.length p'.length with hh | hh
                · exact hh
                · exfalso
                  have e1 : s[p'.length]? = some 58 := by rw [h1]; simp
                  rcases Nat.lt_or_ge p'.length p.length with hg | hg
                  · rw [hs, List.getElem?_append_left hg] at e1
                    rw [List.any_eq_false] at hp
                    have := hp 58 (List.mem_of_getElem? e1)
                    simp at this
                  · have : p'.length = p.length := by omega
                    rw [this, hs] at e1
                    simp at e1
                    rw [e1] at h58; cases h58
              have hm : c ∈ s.take p'.length := by
                have e1 : (s.take p'.length)[p.length]? = some c := by
                  rw [List.getElem?_take_of_lt hlt, hs]; simp
                exact List.mem_of_getElem? e1
              exact List.any_eq_true.2 ⟨c, hm, hsc⟩
          rw [hmem]; rfl
      | false =>
        rw [cond_false]
        have := scF_eq s l (p ++ [c]) (by rw [hs]; simp) (by rw [List.any_append, hp]; simp [h58, scP_eq, h3])
        rw [List.length_append] at this
        exact this
theorem rschTold_ok : ∀ xs H k out, schTold xs H k = some out → ∃ o, CallOK Tryz.prog 16 xs H o ∧ k o = some out := mkFS_ok fun ys xs e h => by
  obtain ⟨s, rfl⟩ : ∃ s, xs = [.str s] := ⟨_, e⟩
  have h2 : s.length ≤ 1099511627776 := of_decide_eq_true h
  refine ⟨_, fun k => rfl, layQa_ok.callF (G := []) rfl (fun k => (scq_fun lowM scQ s k).trans ?_)⟩
  refine (congrArg (fun c => cond c _ none) (tst_true ⟨⟨Nat.zero_le _, h2⟩, .refl _, rfl, rfl⟩)).trans ((cond_true _ _).trans ?_)
  have e2 : schemeM s = bif (scQ s 0).1 then ((scQ s 0).2.1, (scQ s 0).2.2) else ([], false) := (scF_eq s s [] rfl rfl).symm
  show (bif (scQ s 0).1 then k (Out.ret (AVal.tuple [AVal.str (scQ s 0).2.1, AVal.bool (scQ s 0).2.2]) []) else _) = k (.ret (.tuple [.str (schemeM s).1, .bool (schemeM s).2]) [])
  rw [e2]
  cases (scQ s 0).1 <;> rfl
/- Find -/
def fiF (p : List UInt8) : List UInt8 → Nat → Option Nat
  | [], i => bif p.isEmpty then some i else none
  | c :: l, i => bif p.isPrefixOf (c :: l) then some i else fiF p l (i + 1)
def fiQ : List UInt8 → List UInt8 → Nat → Option Nat := fun s p i => fiF p (s.drop i) i
theorem fiF_short (p : List UInt8) : ∀ (l : List UInt8) (i : Nat), l.length < p.length → fiF p l i = none
  | [], i, h => by
    cases p with
    | nil => simp at h
    | cons c p => rfl
  | c :: l, i, h => by
    have hp : p.isPrefixOf (c :: l) = false := by
      rw [begin_take, dF (by omega)]; rfl
    rw [fiF, hp, cond_false]
    exact fiF_short p l (i + 1) (by rw [List.length_cons] at h; omega)
noncomputable abbrev finTurn := lturn Tryz.prog Lay.nil (finFH fiQ) 47 2 [0,1,5] [] [4] []
theorem fin_runs (s p : List UInt8) (hs : s.length ≤ 1099511627776) (hp : 1 ≤ p.length) (hp2 : p.length ≤ 1099511627776) (H : Heap) : ∀ (m i : Nat), s.length - i ≤ m → i ≤ s.length →
    ((fiQ s p i).isSome = true → LoopRuns finTurn 25 [0,1,5] [] [4] [] [.str s, .str p, .int .i64 (i : Nat)] [] H .ret [.int .i64 ((fiQ s p i).getD 0 : Nat)] [] H) ∧
    ((fiQ s p i).isSome = false → LoopRuns finTurn 25 [0,1,5] [] [4] [] [.str s, .str p, .int .i64 (i : Nat)] [] H (.exit 0) [.undef] [] H) := by
  have out : ∀ i, i ≤ s.length → ¬ i + p.length ≤ s.length → ((fiQ s p i).isSome = true → LoopRuns finTurn 25 [0,1,5] [] [4] [] [.str s, .str p, .int .i64 (i : Nat)] [] H .ret [.int .i64 ((fiQ s p i).getD 0 : Nat)] [] H) ∧
      ((fiQ s p i).isSome = false → LoopRuns finTurn 25 [0,1,5] [] [4] [] [.str s, .str p, .int .i64 (i : Nat)] [] H (.exit 0) [.undef] [] H) := fun i hi hn => by
    have e : fiQ s p i = none := fiF_short p _ i (by rw [List.length_drop]; omega)
    have e1 : IntKind.i64.wrap ((i : Int) + (p.length : Int)) = ((i + p.length : Nat) : Int) := by rw [wrap_of (by omega) (by omega)]; omega
    rw [e]
    refine ⟨(fun h => by cases h), fun _ => .stop (by simp) (fun D k => (fin_step fiQ s p i H D k).trans ?_)⟩
    simp only [e1, dF (show ¬ ((i + p.length : Nat) : Int) ≤ s.length by omega), cond_false]
  intro m
  induction m with
  | zero => intro i hm hi; exact out i hi (by omega)
  | succ m ih =>
    intro i hm hi
    by_cases hn : i + p.length ≤ s.length
    case neg => exact out i hi hn
    have e1 : IntKind.i64.wrap ((i : Int) + (p.length : Int)) = ((i + p.length : Nat) : Int) := by rw [wrap_of (by omega) (by omega)]; omega
    have e2 : IntKind.i64.wrap ((i : Int) + 1) = ((i + 1 : Nat) : Int) := wrap_add1 (by omega)
    have ed := drop_cons_of s i 0 (by omega)
    have hl : (s.drop i).length = s.length - i := List.length_drop
    have ep : (List.drop i (List.take (i + p.length) s) == p) = p.isPrefixOf (s.drop i) := by
      rw [begin_take, dT (show (p.length : Int) ≤ ((s.drop i).length : Int) by omega), cond_true, List.drop_take, Nat.add_sub_cancel_left]
    have key := fun D k => fin_step fiQ s p i H D k
    simp only [e1, e2, Int.toNat_natCast, ep, dT (show ((i + p.length : Nat) : Int) ≤ s.length by omega), dT (show (0 : Int) ≤ i by omega), dT (show (i : Int) ≤ ((i + p.length : Nat) : Int) by omega), Bool.and_self, cond_true] at key
    have eQ : fiQ s p i = bif p.isPrefixOf (s.drop i) then some i else fiQ s p (i + 1) := by unfold fiQ; rw [ed]; rfl
    rw [eQ]
    have ih2 := ih (i + 1) (by omega) (by omega)
    cases hc : p.isPrefixOf (s.drop i) with
    | true =>
      simp only [hc, cond_true] at key ⊢
      exact ⟨fun _ => .stop (by simp) key, (fun h => by cases h)⟩
    | false =>
      simp only [hc, cond_false] at key ⊢
      exact ⟨fun h => .step key (ih2.1 h), fun h => .step key (ih2.2 h)⟩
theorem finSp_ok : SpOK finTurn 25 [0,1,5] [] [4] [] (finSp fiQ) := mkL_ok fun a h => by
  have key := fin_runs a.s a.p h.2.1 h.2.2.1 h.2.2.2 a.H _ a.i (Nat.le_refl _) h.1
  show ∃ e vs bs H', (∀ k : AExit → List AVal → List (List AVal) → Heap → Ans, cond (fiQ a.s a.p a.i).isSome _ _ = k e vs bs H') ∧ _
  cases hb : (fiQ a.s a.p a.i).isSome with
  | true => exact ⟨_, _, _, _, fun k => rfl, key.1 hb⟩
  | false => exact ⟨_, _, _, _, fun k => rfl, key.2 hb⟩
theorem layQf_ok : (layQf fiQ).OK Tryz.prog := Lay.nil_ok.loop1 (id := 2) (by kernel_rfl) (by kernel_rfl) (by kernel_rfl) finSp_ok
def findQ (s p : List UInt8) : Int := bif (fiQ s p 0).isSome then ((fiQ s p 0).getD 0 : Nat) else -1
theorem findTold_ok : ∀ xs H k out, findTold findQ xs H k = some out → ∃ o, CallOK Tryz.prog 47 xs H o ∧ k o = some out := mkFS_ok fun ys xs e h => by
  obtain ⟨s, p, rfl⟩ : ∃ s p, xs = [.str s, .str p] := ⟨_, _, e⟩
  have h2 : s.length ≤ 1099511627776 ∧ 1 ≤ p.length ∧ p.length ≤ 1099511627776 := of_decide_eq_true h
  refine ⟨_, fun k => rfl, layQf_ok.callF (G := []) rfl (fun k => (fin_fun fiQ s p k).trans ?_)⟩
  refine (congrArg (fun c => cond c _ none) (tst_true ⟨⟨Nat.zero_le _, h2⟩, .refl _, rfl, rfl⟩)).trans ((cond_true _ _).trans ?_)
  show (bif (fiQ s p 0).isSome then k (Out.ret (AVal.int IntKind.i64 ((fiQ s p 0).getD 0 : Nat)) []) else _) = k (.ret (.int .i64 (findQ s p)) [])
  unfold findQ
  cases (fiQ s p 0).isSome <;> rfl
theorem fiF_index (p : List UInt8) : ∀ (l : List UInt8) (i : Nat), (fiF p l i).isSome = decide (Lib.index l p ≥ 0)
  | [], i => by
    rw [fiF, Lib.index]
    cases p.isEmpty <;> rfl
  | c :: l, i => by
    have ih := fiF_index p l (i + 1)
    have hge := Lib.index_ge l p
    rw [fiF, Lib.index]
    cases p.isPrefixOf (c :: l) with
    | true => rfl
    | false =>
      rw [cond_false, ih, if_neg (by decide)]
      by_cases h1 : Lib.index l p = -1
      · rw [h1]; rfl
      · have h2 : (Lib.index l p == -1) = false := by simpa using h1
        rw [h2, if_neg (by decide)]
        exact decide_eq_decide.2 (by omega)
theorem findQ_index (s p : List UInt8) : decide (findQ s p < 0) = !decide (Lib.index s p ≥ 0) := by
  have h : (fiQ s p 0).isSome = decide (Lib.index s p ≥ 0) := fiF_index p s 0
  unfold findQ
  rw [← h]
  cases hb : (fiQ s p 0).isSome with
  | true => rw [cond_true, dF (by omega)]; rfl
  | false => rfl
/- Styled -/
def stP (c : UInt8) : Bool := bif bif !ltr c then !dig c else false then !anyI [32, 46, 44, 37, 35, 43, 45] (c.toNat : Int) else false
noncomputable abbrev layQs' : Lay := layQs anyI lowM findQ
theorem layQs_ok : layQs'.OK Tryz.prog := (layQ1_ok.addF rlowTold_ok).addF findTold_ok
noncomputable abbrev styTurn := lturn Tryz.prog layQs' (styFH (fun l => l.any stP)) 19 3 [0,3,4] [] [0,2,3] []
theorem stySp_ok : SpOK styTurn 45 [0,3,4] [] [0,2,3] [] (stySp (fun l => l.any stP)) := mkL_ok fun a h => by
  have key := any_runs (l := a.t) (p := stP) (vs := fun i => [.str a.s, .str a.t, .int .i64 (i : Nat)]) (w0 := [.str a.s, .undef, .str a.t]) (w1 := [.str a.s, .bool false, .str a.t]) (H := a.H) (e := 0) (turn := styTurn) (n := 45) (L := [0,3,4]) (LX := [0,2,3])
    (fun i D k hi => by
      have h2 := h.2
      refine (sty_step _ anyI lowM findQ a.s a.t i a.H D k).trans ?_
      by_cases hlt : i < a.t.length
      · simp only [dT hlt, dT (show (i : Int) < a.t.length by omega), dT (show (0 : Int) ≤ i by omega), Int.toNat_natCast, Bool.and_self, Bool.true_or, cond_true, wrap_add1 (show i < 4611686018427387904 by omega), rLtr_eq, rDgt_eq]
        rfl
      · simp only [dF hlt, dF (show ¬ (i : Int) < a.t.length by omega), cond_false]) _ a.i (Nat.le_refl _) h.1
  show ∃ e vs bs H', (∀ k : AExit → List AVal → List (List AVal) → Heap → Ans, cond ((a.t.drop a.i).any stP) _ _ = k e vs bs H') ∧ _
  cases hb : (a.t.drop a.i).any stP with
  | true => exact ⟨_, _, _, _, fun k => rfl, key.1 hb⟩
  | false => exact ⟨_, _, _, _, fun k => rfl, key.2 hb⟩
theorem layQt_ok : (layQt anyI lowM findQ (fun l => l.any stP)).OK Tryz.prog := layQs_ok.loop1 (id := 3) (by kernel_rfl) (by kernel_rfl) (by kernel_rfl) stySp_ok
theorem stP_eq (c : UInt8) : cpP c = stP c := oct256 (p := fun c => cpP c = stP c) (by decide +kernel) c
theorem styTold_ok : ∀ xs H k out, plaTold xs H k = some out → ∃ o, CallOK Tryz.prog 19 xs H o ∧ k o = some out := mkFS_ok fun ys xs e h => by
  obtain ⟨s, rfl⟩ : ∃ s, xs = [.str s] := ⟨_, e⟩
  have h2 : s.length ≤ 1099511627776 := of_decide_eq_true h
  have hl : (lowM s).length = s.length := List.length_map _
  refine ⟨_, fun k => rfl, layQt_ok.callF (G := []) rfl (fun k => (sty_fun anyI lowM findQ (fun l => l.any stP) s k).trans ?_)⟩
  rw [dT h2, cond_true]
  refine (congrArg (fun c => cond c _ none) (tst_true ⟨⟨Nat.zero_le _, by rw [hl]; exact h2⟩, .refl _, rfl, rfl⟩)).trans ((cond_true _ _).trans ?_)
  have e2 : plainM s = (decide (s.length ≤ 4096) && (!decide (Lib.index (lowM s) [101, 120, 112, 114, 101, 115, 115, 105, 111, 110] ≥ 0) && !decide (Lib.index (lowM s) [117, 114, 108] ≥ 0) && !(lowM s).any stP)) := by unfold plainM; rw [show cpP = stP from funext stP_eq]
  show _ = k (.ret (.bool (plainM s)) [])
  rw [e2]
  have e0 : List.drop (Int.toNat 0) (lowM s) = lowM s := rfl
  have e4 : decide ((s.length : Int) ≤ 4096) = decide (s.length ≤ 4096) := decide_eq_decide.2 (by omega)
  simp only [e0, e4, findQ_index]
  cases (lowM s).any stP with
  | true => simp
  | false =>
    rw [cond_false, dT (show (lowM s).length ≤ 1099511627776 ∧ 1 ≤ 10 ∧ 10 ≤ 1099511627776 by omega), dT (show (lowM s).length ≤ 1099511627776 ∧ 1 ≤ 3 ∧ 3 ≤ 1099511627776 by omega)]
    simp only [cond_true, bif_and, Bool.not_false, Bool.and_true, Bool.and_assoc]
end Go.Mu
set_option linter.unusedVariables false
set_option linter.unusedSimpArgs false
set_option maxRecDepth 100000
namespace Go.Mu
open Go Go.Proofs
theorem oneP_Q (s : List UInt8) (hs : s.length ≤ 1099511627776) : oneP s = oneQ s := (oneP_W s hs).trans (oneW_Q s)
theorem refC_ne (n : Nat) : refC n ≠ [] := by
  unfold refC
  cases badR (n : Int) || n == 0 with
  | true => simp
  | false =>
    have h := (Lib.runeCells_le (n : Int)).1
    rw [Lib.runeCells_length] at h
    intro e
    rw [show (bif false then ([239, 191, 189] : List UInt8) else Lib.encodeRune (n : Int)) = Lib.encodeRune (n : Int) from rfl] at e
    rw [e] at h
    simp at h
theorem onQ_ne (s : List UInt8) (a : Nat) (b : Bool) : (onQ s a b).2 ≠ 0 → (onQ s a b).1 ≠ [] := by
  unfold onQ
  generalize (!(decide (1 ≤ runQ b (s.drop a)) && decide (runQ b (s.drop a) ≤ 7) && decide (a + runQ b (s.drop a) < s.length) && s.getD (a + runQ b (s.drop a)) 0 == 59)) = x
  cases x with
  | true => intro h; exact absurd rfl h
  | false => intro _; exact refC_ne _
theorem oneQ_ne (s : List UInt8) : (oneQ s).2 ≠ 0 → (oneQ s).1 ≠ [] := by
  unfold oneQ
  cases [38, 97, 109, 112, 59].isPrefixOf s with
  | true => intro _; simp
  | false =>
  cases [38, 108, 116, 59].isPrefixOf s with
  | true => intro _; simp
  | false =>
  cases [38, 103, 116, 59].isPrefixOf s with
  | true => intro _; simp
  | false =>
  cases [38, 113, 117, 111, 116, 59].isPrefixOf s with
  | true => intro _; simp
  | false =>
  cases [38, 97, 112, 111, 115, 59].isPrefixOf s with
  | true => intro _; simp
  | false =>
  cases [38, 35].isPrefixOf s with
  | false => intro h; exact absurd rfl h
  | true =>
  cases hxQ s with
  | true => exact onQ_ne s 3 true
  | false => exact onQ_ne s 2 false
theorem oneQ_len (s : List UInt8) (hs : s.length ≤ 1099511627776) : (oneQ s).1.length ≤ 4 ∧ (oneQ s).2 ≤ s.length := by
  have := oneP_is s hs
  rw [oneP_Q s hs] at this
  exact ⟨this.1, this.2.2.1⟩
def drQ : Nat → List UInt8 → List UInt8 → Nat → List UInt8 × Nat
  | 0, _, l, v => (l, v)
  | m + 1, s, l, v => bif s == [] then (l, v) else bif (oneQ s).2 == 0 then drQ m (s.drop 1) (l ++ [s.getD 0 0]) (v + 1) else drQ m (s.drop (oneQ s).2) (l ++ (oneQ s).1) (v + 1)
theorem drQ_text : ∀ (m : Nat) (s l : List UInt8) (v : Nat), s.length ≤ 1099511627776 → (drQ m s l v).1 = l ++ decR m s
  | 0, s, l, v, _ => by rw [drQ, decR, List.append_nil]
  | m + 1, s, l, v, hs => by
    rw [drQ, decR, oneP_Q s hs]
    cases s == [] with
    | true => simp
    | false =>
      simp only [cond_false]
      cases hn : (oneQ s).2 == 0 with
      | true =>
        have h0 : (oneQ s).2 = 0 := by simpa using hn
        rw [h0, dF (by omega), cond_true, cond_false, drQ_text m _ _ _ (by rw [List.length_drop]; omega), List.append_assoc]
        rfl
      | false =>
        have h0 : (oneQ s).2 ≠ 0 := by simpa using hn
        rw [dT (by omega), cond_false, cond_true, drQ_text m _ _ _ (by rw [List.length_drop]; omega), List.append_assoc]
def deR : DeQ := fun s => bif s == [] then ([], 0) else bif (oneQ s).2 == 0 then drQ (s.length - 1) (s.drop 1) [s.getD 0 0] 0 else drQ (s.length - 1) (s.drop (oneQ s).2) (oneQ s).1 0
theorem deR_text (s : List UInt8) (hs : s.length ≤ 1099511627776) : (deR s).1 = decP s := by
  unfold deR decP
  cases hb : s == [] with
  | true =>
    have : s = [] := by simpa using hb
    subst this
    rfl
  | false =>
    have hne : s ≠ [] := by simpa using hb
    have hl : 0 < s.length := List.length_pos_iff.2 hne
    obtain ⟨m, hm⟩ : ∃ m, s.length = m + 1 := ⟨s.length - 1, by omega⟩
    rw [hm, decR, oneP_Q s hs, hb]
    simp only [cond_false, Nat.add_sub_cancel]
    cases hn : (oneQ s).2 == 0 with
    | true =>
      have h0 : (oneQ s).2 = 0 := by simpa using hn
      rw [h0, dF (by omega), cond_true, cond_false, drQ_text m _ _ _ (by rw [List.length_drop]; omega)]
      rfl
    | false =>
      have h0 : (oneQ s).2 ≠ 0 := by simpa using hn
      rw [dT (by omega), cond_false, cond_true, drQ_text m _ _ _ (by rw [List.length_drop]; omega)]
noncomputable abbrev deqTurn := lturn Tryz.prog (layDq oneQ) (deqFH deR) 14 3 [0,3,4] [] [3] []
theorem map_rows (l t : List UInt8) : (l.map byteRow).append (t.map fun c => [AVal.int IntKind.u8 (c.toNat : Int)]) = (l ++ t).map byteRow := by
  show l.map byteRow ++ t.map byteRow = _
  rw [List.map_append]
theorem deq_own (s : List UInt8) (hs : s.length ≤ 268435456) : ∀ (m i : Nat) (l : List UInt8) (v : Nat), s.length - i ≤ m → i ≤ s.length → l.length + 4 * (s.length - i) ≤ 1073741824 →
    LoopRuns deqTurn 36 [0,3,4] [] [3] [] [.str s, .own 0 0 l.length v false, .int .i64 (i : Nat)] [] [.arr 1 (l.map byteRow) v] (.exit 0) [.own 0 0 (drQ m (s.drop i) l v).1.length (drQ m (s.drop i) l v).2 false] [] [.arr 1 ((drQ m (s.drop i) l v).1.map byteRow) (drQ m (s.drop i) l v).2] := by
  have out : ∀ (m i : Nat) (l : List UInt8) (v : Nat), s.length ≤ i → LoopRuns deqTurn 36 [0,3,4] [] [3] [] [.str s, .own 0 0 l.length v false, .int .i64 (i : Nat)] [] [.arr 1 (l.map byteRow) v] (.exit 0) [.own 0 0 (drQ m (s.drop i) l v).1.length (drQ m (s.drop i) l v).2 false] [] [.arr 1 ((drQ m (s.drop i) l v).1.map byteRow) (drQ m (s.drop i) l v).2] := fun m i l v hi => by
    have e : drQ m (s.drop i) l v = (l, v) := by
      rw [List.drop_eq_nil_of_le hi]
      cases m <;> rfl
    rw [e]
    refine .stop (by simp) (fun D k => (deq_s1 deR oneQ s i l.length v (l.map byteRow) D k).trans ?_)
    simp only [dF (show ¬ (i : Int) < s.length by omega), cond_false]
  intro m
  induction m with
  | zero => intro i l v hm hi hl; exact out 0 i l v (by omega)
  | succ m ih =>
    intro i l v hm hi hl
    by_cases hlt : i < s.length
    case neg => exact out (m + 1) i l v (by omega)
    have ed := drop_cons_of s i 0 hlt
    have hdl : (s.drop i).length = s.length - i := List.length_drop
    have e1 : IntKind.i64.wrap ((i : Int) + 1) = ((i + 1 : Nat) : Int) := wrap_add1 (by omega)
    have et : List.drop i (List.take s.length s) = s.drop i := by rw [List.take_length]
    obtain ⟨o1, o2⟩ := oneQ_len (s.drop i) (by omega)
    have e2 : IntKind.i64.wrap ((i : Int) + (((oneQ (s.drop i)).2 : Nat) : Int)) = ((i + (oneQ (s.drop i)).2 : Nat) : Int) := by rw [wrap_of (by omega) (by omega)]; omega
    have hq : (l.length == (l.map byteRow).length) = true := by simp
    have hml : (List.map (fun (c : UInt8) => [AVal.int IntKind.u8 (c.toNat : Int)]) (oneQ (s.drop i)).1).length = (oneQ (s.drop i)).1.length := List.length_map _
    have key := fun D k => deq_s1 deR oneQ s i l.length v (l.map byteRow) D k
    simp only [Int.toNat_natCast, et, hml, e1, e2, hq, beq_self_eq_true, dT (show (i : Int) < s.length by omega), dT (show (0 : Int) ≤ i by omega), dT (show (i : Int) ≤ s.length by omega), dT (show (s.length : Int) ≤ s.length by omega), dT (show (s.drop i).length ≤ 1099511627776 by omega), dT (show (2 * (l.length + 1) + 1000) * 1 ≤ 281474976710656 by omega), dT (show (2 * (l.length + (oneQ (s.drop i)).1.length) + 1000) * 1 ≤ 281474976710656 by omega), Bool.and_self, cond_true] at key
    have hsb : (s.drop i == []) = false := by rw [ed]; rfl
    rw [drQ, hsb, cond_false]
    have e0 : ((((oneQ (s.drop i)).2 : Nat) : Int) == 0) = ((oneQ (s.drop i)).2 == 0) := by rw [Bool.eq_iff_iff]; simp
    rw [List.drop_drop, List.drop_drop]
    have eg : (s.drop i).getD 0 0 = s.getD i 0 := by rw [List.getD_drop]; rfl
    rw [eg]
    cases hn : (oneQ (s.drop i)).2 == 0 with
    | true =>
      simp only [e0, hn, cond_true, map_row] at key
      have ih2 := ih (i + 1) (l ++ [s.getD i 0]) (v + 1) (by omega) (by omega) (by rw [List.length_append, List.length_singleton]; omega)
      rw [List.length_append, List.length_singleton] at ih2
      rw [cond_true]
      exact .step key ih2
    | false =>
      have h0 : (oneQ (s.drop i)).2 ≠ 0 := by simpa using hn
      simp only [e0, hn, cond_false, map_rows] at key
      have ih2 := ih (i + (oneQ (s.drop i)).2) (l ++ (oneQ (s.drop i)).1) (v + 1) (by omega) (by omega) (by rw [List.length_append]; omega)
      rw [List.length_append] at ih2
      rw [cond_false]
      exact .step key ih2
theorem deqSp_ok : SpOK deqTurn 36 [0,3,4] [] [3] [] (deqSp deR) := mkL_ok fun a h => by
  obtain ⟨s, i⟩ := a
  obtain ⟨h1, h2⟩ := h
  simp only at h1 h2
  subst h1
  have htx := deR_text s (by omega)
  show ∃ e vs bs H', (∀ k : AExit → List AVal → List (List AVal) → Heap → Ans, cond ((deR s).1 == []) _ _ = k e vs bs H') ∧ _
  by_cases hs0 : s = []
  · subst hs0
    exact ⟨_, _, _, _, fun k => rfl, .stop (by simp) (fun D k => (deq_s0 deR oneQ [] 0 D k).trans rfl)⟩
  · have hb : (s == []) = false := by simpa using hs0
    have hl : 0 < s.length := List.length_pos_iff.2 hs0
    obtain ⟨o1, o2⟩ := oneQ_len s (by omega)
    have et : List.drop (Int.toNat 0) (List.take s.length s) = s := by rw [List.take_length]; rfl
    have hml : (List.map (fun (c : UInt8) => [AVal.int IntKind.u8 (c.toNat : Int)]) (oneQ s).1).length = (oneQ s).1.length := List.length_map _
    have e2 : IntKind.i64.wrap ((0 : Int) + (((oneQ s).2 : Nat) : Int)) = (((oneQ s).2 : Nat) : Int) := by rw [wrap_of (by omega) (by omega)]; omega
    have key := fun D k => deq_s0 deR oneQ s 0 D k
    simp only [Int.toNat_natCast, et, hml, e2, Nat.zero_add, dT (show (0 : Int) < s.length by omega), dT (show (0 : Int) ≤ 0 by omega), dT (show (0 : Int) ≤ s.length by omega), dT (show (s.length : Int) ≤ s.length by omega), dT (show s.length ≤ 1099511627776 by omega), dT (show (2 * (oneQ s).1.length + 1000) * 1 ≤ 281474976710656 by omega), Bool.or_true, Bool.and_self, cond_true] at key
    have e0 : ((((oneQ s).2 : Nat) : Int) == 0) = ((oneQ s).2 == 0) := by rw [Bool.eq_iff_iff]; simp
    have eR : deR s = bif (oneQ s).2 == 0 then drQ (s.length - 1) (s.drop 1) [s.getD 0 0] 0 else drQ (s.length - 1) (s.drop (oneQ s).2) (oneQ s).1 0 := by unfold deR; rw [hb]; rfl
    cases hn : (oneQ s).2 == 0 with
    | true =>
      simp only [e0, hn, cond_true] at key
      rw [hn, cond_true] at eR
      have ih := deq_own s (by omega) (s.length - 1) 1 [s.getD 0 0] 0 (by omega) (by omega) (by simp; omega)
      rw [← eR] at ih
      have hne : ((deR s).1 == []) = false := by
        rw [eR, drQ_text _ _ _ _ (by rw [List.length_drop]; omega)]; rfl
      rw [hne]
      refine ⟨_, _, _, _, fun k => rfl, .step (fun D k => (key D k).trans ?_) ih⟩
      rfl
    | false =>
      have h0 : (oneQ s).2 ≠ 0 := by simpa using hn
      simp only [e0, hn, cond_false] at key
      rw [hn, cond_false] at eR
      have ih := deq_own s (by omega) (s.length - 1) (oneQ s).2 (oneQ s).1 0 (by omega) (by omega) (by omega)
      rw [← eR] at ih
      have hne : ((deR s).1 == []) = false := by
        have := oneQ_ne s h0
        rw [eR, drQ_text _ _ _ _ (by rw [List.length_drop]; omega)]
        cases hq : (oneQ s).1 with
        | nil => exact absurd hq this
        | cons c t => rfl
      rw [hne]
      refine ⟨_, _, _, _, fun k => rfl, .step (fun D k => (key D k).trans ?_) ih⟩
      rfl
theorem layDq_ok : (layDq oneQ).OK Tryz.prog := Lay.nil_ok.addF oneQTold_ok
theorem layDr_ok : (layDr oneQ deR).OK Tryz.prog := layDq_ok.loop1 (id := 3) (by kernel_rfl) (by kernel_rfl) (by kernel_rfl) deqSp_ok
def rowB0 (r : List AVal) : Bool := match r with | [v] => isInt IntKind.u8 v | x => false
theorem rdecTold_ok : ∀ xs H k out, decTold xs H k = some out → ∃ o, CallOK Tryz.prog 14 xs H o ∧ k o = some out := mkFS_ok fun ys xs e h => by
  obtain ⟨s, rfl⟩ : ∃ s, xs = [.str s] := ⟨_, e⟩
  have h2 : s.length ≤ 268435456 := of_decide_eq_true h
  have htx := deR_text s (by omega)
  have key := fun k => (deq_fun oneQ deR s k).trans ((congrArg (fun c => cond c _ none) (tst_true ⟨⟨rfl, h2⟩, .refl _, by trivial⟩)).trans (cond_true _ _))
  cases hb : (deR s).1 == [] with
  | true =>
    have h0 : decP s = [] := by rw [← htx]; simpa using hb
    refine ⟨_, fun k => rfl, layDr_ok.callF (G := []) rfl (fun k => (key k).trans ?_)⟩
    rw [hb, cond_true]
    show _ = k (.ret (.str (decP s)) [])
    rw [h0]
  | false =>
    refine ⟨_, fun k => rfl, layDr_ok.callF (G := [.arr 1 ((deR s).1.map byteRow) (deR s).2]) rfl (fun k => (key k).trans ?_)⟩
    rw [hb, cond_false]
    obtain ⟨g1, g2⟩ := bytes_str (deR s).1
    have hc : (((deR s).2 == (deR s).2) && true && decide (0 + (deR s).1.length ≤ ((deR s).1.map byteRow).length) && (List.take (deR s).1.length (List.drop 0 ((deR s).1.map byteRow))).all rowB0) = true := by
      have g1' : (List.take (deR s).1.length (List.drop 0 ((deR s).1.map byteRow))).all rowB0 = true := g1
      rw [g1', beq_self_eq_true, dT (show 0 + (deR s).1.length ≤ ((deR s).1.map byteRow).length by rw [List.length_map]; omega)]
      rfl
    refine (congrArg (fun c => cond c _ none) hc).trans ((cond_true _ _).trans ?_)
    show _ = k (.ret (.str (decP s)) _)
    rw [← htx]
    exact congrArg (fun t => k (Out.ret (AVal.str t) [.arr 1 ((deR s).1.map byteRow) (deR s).2])) g2
end Go.Mu
set_option linter.unusedVariables false
set_option linter.unusedSimpArgs false
set_option maxRecDepth 100000
namespace Go.Mu
open Go Go.Proofs
def noneTold : FSp := fun _ _ _ => none
theorem noneTold_ok {f : FuncId} : ∀ xs H k out, noneTold xs H k = some out → ∃ o, CallOK Tryz.prog f xs H o ∧ k o = some out := fun _ _ _ _ h => by cases h
noncomputable def layCo : Lay := (layFa.addF 38 noneTold).addF 39 noneTold
theorem layCo_ok : layCo.OK Tryz.prog := (layFa_ok.addF noneTold_ok).addF noneTold_ok
theorem cont_fun (e : Int) (s : List UInt8) (k : Out → Ans) : iFun Tryz.prog (layCo.hd Tryz.prog) layCo.fhs 0 13 [.int .i64 e, .str s] [] k = (
 let c0 : Bool := e == 1;
 let c1 : Bool := decide ((decP s).length ≤ 1099511627776);
 let l2 : List UInt8 := (schemeM (decP s)).fst;
 let c3 : Bool := decide (s.length ≤ 1099511627776);
 let c4 : Bool := e == 2;
 let c5 : Bool := e == 3;
 let c6 : Bool := e == 5;
  bif decide (s.length ≤ 268435456) then
  bif c0 then
  bif c0 then k (Out.ret (AVal.bool (cleanM s)) [])
  else
  bif e == 4 then
  bif c1 then
  k
  (Out.ret
  (AVal.bool
  (bif cleanM s then
  bif !(schemeM (decP s)).snd then true
  else
  bif bif l2 == [104, 116, 116, 112] then true else l2 == [104, 116, 116, 112, 115] then true
  else l2 == [109, 97, 105, 108, 116, 111]
  else false))
  [])
  else none
  else
  bif e == 7 then none
  else
  bif e == 9 then none
  else
  bif e == 8 then bif c3 then k (Out.ret (AVal.bool (safeM s)) []) else none
  else
  bif e == 10 then
  bif c1 then k (Out.ret (AVal.bool (bif cleanM s then safeM (decP s) else false)) []) else none
  else
  bif e == 11 then bif c3 then k (Out.ret (AVal.bool (plainM s)) []) else none
  else
  bif e == 12 then
  bif c1 then k (Out.ret (AVal.bool (bif cleanM s then plainM (decP s) else false)) []) else none
  else k (Out.ret (AVal.bool false) [])
  else
  bif c4 then
  bif c4 then k (Out.ret (AVal.bool (cleanM s)) [])
  else
  bif e == 4 then
  bif c1 then
  k
  (Out.ret
  (AVal.bool
  (bif cleanM s then
  bif !(schemeM (decP s)).snd then true
  else
  bif bif l2 == [104, 116, 116, 112] then true else l2 == [104, 116, 116, 112, 115] then true
  else l2 == [109, 97, 105, 108, 116, 111]
  else false))
  [])
  else none
  else
  bif e == 7 then none
  else
  bif e == 9 then none
  else
  bif e == 8 then bif c3 then k (Out.ret (AVal.bool (safeM s)) []) else none
  else
  bif e == 10 then
  bif c1 then k (Out.ret (AVal.bool (bif cleanM s then safeM (decP s) else false)) []) else none
  else
  bif e == 11 then bif c3 then k (Out.ret (AVal.bool (plainM s)) []) else none
  else
  bif e == 12 then
  bif c1 then k (Out.ret (AVal.bool (bif cleanM s then plainM (decP s) else false)) []) else none
  else k (Out.ret (AVal.bool false) [])
  else
  bif c5 then
  bif c5 then k (Out.ret (AVal.bool (cleanM s)) [])
  else
  bif e == 4 then
  bif c1 then
  k
  (Out.ret
  (AVal.bool
  (bif cleanM s then
  bif !(schemeM (decP s)).snd then true
  else
  bif bif l2 == [104, 116, 116, 112] then true else l2 == [104, 116, 116, 112, 115] then true
  else l2 == [109, 97, 105, 108, 116, 111]
  else false))
  [])
  else none
  else
  bif e == 7 then none
  else
  bif e == 9 then none
  else
  bif e == 8 then bif c3 then k (Out.ret (AVal.bool (safeM s)) []) else none
  else
  bif e == 10 then
  bif c1 then k (Out.ret (AVal.bool (bif cleanM s then safeM (decP s) else false)) []) else none
  else
  bif e == 11 then bif c3 then k (Out.ret (AVal.bool (plainM s)) []) else none
  else
  bif e == 12 then
  bif c1 then k (Out.ret (AVal.bool (bif cleanM s then plainM (decP s) else false)) []) else none
  else k (Out.ret (AVal.bool false) [])
  else
  bif c6 then
  bif c6 then k (Out.ret (AVal.bool (cleanM s)) [])
  else
  bif e == 4 then
  bif c1 then
  k
  (Out.ret
  (AVal.bool
  (bif cleanM s then
  bif !(schemeM (decP s)).snd then true
  else
  bif bif l2 == [104, 116, 116, 112] then true else l2 == [104, 116, 116, 112, 115] then true
  else l2 == [109, 97, 105, 108, 116, 111]
  else false))
  [])
  else none
  else
  bif e == 7 then none
  else
  bif e == 9 then none
  else
  bif e == 8 then bif c3 then k (Out.ret (AVal.bool (safeM s)) []) else none
  else
  bif e == 10 then
  bif c1 then k (Out.ret (AVal.bool (bif cleanM s then safeM (decP s) else false)) []) else none
  else
  bif e == 11 then bif c3 then k (Out.ret (AVal.bool (plainM s)) []) else none
  else
  bif e == 12 then
  bif c1 then k (Out.ret (AVal.bool (bif cleanM s then plainM (decP s) else false)) [])
  else none
  else k (Out.ret (AVal.bool false) [])
  else
  bif e == 6 then k (Out.ret (AVal.bool (cleanM s)) [])
  else
  bif e == 4 then
  bif c1 then
  k
  (Out.ret
  (AVal.bool
  (bif cleanM s then
  bif !(schemeM (decP s)).snd then true
  else
  bif bif l2 == [104, 116, 116, 112] then true else l2 == [104, 116, 116, 112, 115] then true
  else l2 == [109, 97, 105, 108, 116, 111]
  else false))
  [])
  else none
  else
  bif e == 7 then none
  else
  bif e == 9 then none
  else
  bif e == 8 then bif c3 then k (Out.ret (AVal.bool (safeM s)) []) else none
  else
  bif e == 10 then
  bif c1 then k (Out.ret (AVal.bool (bif cleanM s then safeM (decP s) else false)) []) else none
  else
  bif e == 11 then bif c3 then k (Out.ret (AVal.bool (plainM s)) []) else none
  else
  bif e == 12 then
  bif c1 then k (Out.ret (AVal.bool (bif cleanM s then plainM (decP s) else false)) [])
  else none
  else k (Out.ret (AVal.bool false) [])
  else none) := by kernel_rfl
def contTold (C : Int → List UInt8 → Bool) : FSp := mkFS [.i .i64, .s] (fun xs => decide (aI xs 0 ≠ 7 ∧ aI xs 0 ≠ 9 ∧ (aS xs 1).length ≤ 268435456)) (fun xs k => k (.ret (.bool (C (aI xs 0) (aS xs 1))) []))
noncomputable def layRaw (C : Int → List UInt8 → Bool) (R : List UInt8 → Int → Bool) : Lay := (((((((Lay.nil.addF 13 (contTold C)).addF 6 alive35Told).addF 43 (hasTold R)).addF 14 decTold).addF 16 schTold).addF 18 safTold).addF 19 plaTold)
theorem raw_fun (C : Int → List UInt8 → Bool) (R : List UInt8 → Int → Bool) (e : Int) (s : List UInt8) (k : Out → Ans) : iFun Tryz.prog ((layRaw C R).hd Tryz.prog) (layRaw C R).fhs 0 5 [.int .i64 e, .str s] [] k = (
 let c0 : Bool := decide (s.length ≤ 1099511627776);
 let c1 : Bool := e == 1;
 let c2 : Bool := decide (e ≠ 7 ∧ e ≠ 9 ∧ s.length ≤ 268435456);
 let c3 : Bool := bif bif bif !R s 60 then !R s 62 else false then !R s 34 else false then !R s 39 else false;
 let c4 : Bool := decide ((decP s).length ≤ 1099511627776);
 let l5 : List UInt8 := (schemeM (decP s)).fst;
 let c6 : Bool := e == 7;
 let c7 : Bool := e == 2;
 let c8 : Bool := e == 3;
 let c9 : Bool := e == 5;
  bif decide (s.length ≤ 268435456) then
  bif c0 then
  bif c0 then
  bif c0 then
  bif c0 then
  bif c1 then
  bif c1 then bif c2 then k (Out.ret (AVal.bool (bif C e s == c3 then true else false)) []) else none
  else
  bif e == 4 then
  bif c4 then
  bif c2 then
  k
  (Out.ret
  (AVal.bool
  (bif
  C e s ==
  bif c3 then
  bif !(schemeM (decP s)).snd then true
  else
  bif
  bif l5 == [104, 116, 116, 112] then true
  else l5 == [104, 116, 116, 112, 115] then
  true
  else l5 == [109, 97, 105, 108, 116, 111]
  else false then
  true
  else false))
  [])
  else none
  else none
  else
  bif e == 8 then
  bif c0 then
  bif c2 then k (Out.ret (AVal.bool (bif C e s == safeM s then true else false)) []) else none
  else none
  else
  bif e == 10 then
  bif c4 then
  bif c2 then
  k
  (Out.ret (AVal.bool (bif C e s == bif c3 then safeM (decP s) else false then true else false))
  [])
  else none
  else none
  else
  bif e == 11 then
  bif c0 then
  bif c2 then k (Out.ret (AVal.bool (bif C e s == plainM s then true else false)) []) else none
  else none
  else
  bif e == 12 then
  bif c4 then
  bif c2 then
  k
  (Out.ret
  (AVal.bool (bif C e s == bif c3 then plainM (decP s) else false then true else false))
  [])
  else none
  else none
  else
  bif c6 then
  bif c6 then k (Out.ret (AVal.bool true) [])
  else
  bif c2 then k (Out.ret (AVal.bool (bif C e s == false then true else false)) []) else none
  else
  bif e == 9 then k (Out.ret (AVal.bool true) [])
  else
  bif c2 then k (Out.ret (AVal.bool (bif C e s == false then true else false)) []) else none
  else
  bif c7 then
  bif c7 then bif c2 then k (Out.ret (AVal.bool (bif C e s == c3 then true else false)) []) else none
  else
  bif e == 4 then
  bif c4 then
  bif c2 then
  k
  (Out.ret
  (AVal.bool
  (bif
  C e s ==
  bif c3 then
  bif !(schemeM (decP s)).snd then true
  else
  bif
  bif l5 == [104, 116, 116, 112] then true
  else l5 == [104, 116, 116, 112, 115] then
  true
  else l5 == [109, 97, 105, 108, 116, 111]
  else false then
  true
  else false))
  [])
  else none
  else none
  else
  bif e == 8 then
  bif c0 then
  bif c2 then k (Out.ret (AVal.bool (bif C e s == safeM s then true else false)) []) else none
  else none
  else
  bif e == 10 then
  bif c4 then
  bif c2 then
  k
  (Out.ret
  (AVal.bool (bif C e s == bif c3 then safeM (decP s) else false then true else false)) [])
  else none
  else none
  else
  bif e == 11 then
  bif c0 then
  bif c2 then k (Out.ret (AVal.bool (bif C e s == plainM s then true else false)) []) else none
  else none
  else
  bif e == 12 then
  bif c4 then
  bif c2 then
  k
  (Out.ret
  (AVal.bool (bif C e s == bif c3 then plainM (decP s) else false then true else false))
  [])
  else none
  else none
  else
  bif c6 then
  bif c6 then k (Out.ret (AVal.bool true) [])
  else
  bif c2 then k (Out.ret (AVal.bool (bif C e s == false then true else false)) []) else none
  else
  bif e == 9 then k (Out.ret (AVal.bool true) [])
  else
  bif c2 then k (Out.ret (AVal.bool (bif C e s == false then true else false)) []) else none
  else
  bif c8 then
  bif c8 then bif c2 then k (Out.ret (AVal.bool (bif C e s == c3 then true else false)) []) else none
  else
  bif e == 4 then
  bif c4 then
  bif c2 then
  k
  (Out.ret
  (AVal.bool
  (bif
  C e s ==
  bif c3 then
  bif !(schemeM (decP s)).snd then true
  else
  bif
  bif l5 == [104, 116, 116, 112] then true
  else l5 == [104, 116, 116, 112, 115] then
  true
  else l5 == [109, 97, 105, 108, 116, 111]
  else false then
  true
  else false))
  [])
  else none
  else none
  else
  bif e == 8 then
  bif c0 then
  bif c2 then k (Out.ret (AVal.bool (bif C e s == safeM s then true else false)) []) else none
  else none
  else
  bif e == 10 then
  bif c4 then
  bif c2 then
  k
  (Out.ret
  (AVal.bool (bif C e s == bif c3 then safeM (decP s) else false then true else false))
  [])
  else none
  else none
  else
  bif e == 11 then
  bif c0 then
  bif c2 then k (Out.ret (AVal.bool (bif C e s == plainM s then true else false)) [])
  else none
  else none
  else
  bif e == 12 then
  bif c4 then
  bif c2 then
  k
  (Out.ret
  (AVal.bool
  (bif C e s == bif c3 then plainM (decP s) else false then true else false))
  [])
  else none
  else none
  else
  bif c6 then
  bif c6 then k (Out.ret (AVal.bool true) [])
  else
  bif c2 then k (Out.ret (AVal.bool (bif C e s == false then true else false)) [])
  else none
  else
  bif e == 9 then k (Out.ret (AVal.bool true) [])
  else
  bif c2 then k (Out.ret (AVal.bool (bif C e s == false then true else false)) [])
  else none
  else
  bif c9 then
  bif c9 then bif c2 then k (Out.ret (AVal.bool (bif C e s == c3 then true else false)) []) else none
  else
  bif e == 4 then
  bif c4 then
  bif c2 then
  k
  (Out.ret
  (AVal.bool
  (bif
  C e s ==
  bif c3 then
  bif !(schemeM (decP s)).snd then true
  else
  bif
  bif l5 == [104, 116, 116, 112] then true
  else l5 == [104, 116, 116, 112, 115] then
  true
  else l5 == [109, 97, 105, 108, 116, 111]
  else false then
  true
  else false))
  [])
  else none
  else none
  else
  bif e == 8 then
  bif c0 then
  bif c2 then k (Out.ret (AVal.bool (bif C e s == safeM s then true else false)) []) else none
  else none
  else
  bif e == 10 then
  bif c4 then
  bif c2 then
  k
  (Out.ret
  (AVal.bool (bif C e s == bif c3 then safeM (decP s) else false then true else false))
  [])
  else none
  else none
  else
  bif e == 11 then
  bif c0 then
  bif c2 then k (Out.ret (AVal.bool (bif C e s == plainM s then true else false)) [])
  else none
  else none
  else
  bif e == 12 then
  bif c4 then
  bif c2 then
  k
  (Out.ret
  (AVal.bool
  (bif C e s == bif c3 then plainM (decP s) else false then true else false))
  [])
  else none
  else none
  else
  bif c6 then
  bif c6 then k (Out.ret (AVal.bool true) [])
  else
  bif c2 then k (Out.ret (AVal.bool (bif C e s == false then true else false)) [])
  else none
  else
  bif e == 9 then k (Out.ret (AVal.bool true) [])
  else
  bif c2 then k (Out.ret (AVal.bool (bif C e s == false then true else false)) [])
  else none
  else
  bif e == 6 then
  bif c2 then k (Out.ret (AVal.bool (bif C e s == c3 then true else false)) []) else none
  else
  bif e == 4 then
  bif c4 then
  bif c2 then
  k
  (Out.ret
  (AVal.bool
  (bif
  C e s ==
  bif c3 then
  bif !(schemeM (decP s)).snd then true
  else
  bif
  bif l5 == [104, 116, 116, 112] then true
  else l5 == [104, 116, 116, 112, 115] then
  true
  else l5 == [109, 97, 105, 108, 116, 111]
  else false then
  true
  else false))
  [])
  else none
  else none
  else
  bif e == 8 then
  bif c0 then
  bif c2 then k (Out.ret (AVal.bool (bif C e s == safeM s then true else false)) []) else none
  else none
  else
  bif e == 10 then
  bif c4 then
  bif c2 then
  k
  (Out.ret
  (AVal.bool (bif C e s == bif c3 then safeM (decP s) else false then true else false))
  [])
  else none
  else none
  else
  bif e == 11 then
  bif c0 then
  bif c2 then k (Out.ret (AVal.bool (bif C e s == plainM s then true else false)) [])
  else none
  else none
  else
  bif e == 12 then
  bif c4 then
  bif c2 then
  k
  (Out.ret
  (AVal.bool
  (bif C e s == bif c3 then plainM (decP s) else false then true else false))
  [])
  else none
  else none
  else
  bif c6 then
  bif c6 then k (Out.ret (AVal.bool true) [])
  else
  bif c2 then k (Out.ret (AVal.bool (bif C e s == false then true else false)) [])
  else none
  else
  bif e == 9 then k (Out.ret (AVal.bool true) [])
  else
  bif c2 then k (Out.ret (AVal.bool (bif C e s == false then true else false)) [])
  else none
  else none
  else none
  else none
  else none
  else none) := by kernel_rfl
def alwM (t : List UInt8) : Bool := bif bif t == [104, 116, 116, 112] then true else t == [104, 116, 116, 112, 115] then true else t == [109, 97, 105, 108, 116, 111]
noncomputable def contM (e : Int) (s : List UInt8) : Bool :=
  bif e == 1 then cleanM s else bif e == 2 then cleanM s else bif e == 3 then cleanM s else bif e == 5 then cleanM s else bif e == 6 then cleanM s else
  bif e == 4 then (bif cleanM s then (bif !(schemeM (decP s)).2 then true else alwM (schemeM (decP s)).1) else false) else
  bif e == 8 then safeM s else bif e == 10 then (bif cleanM s then safeM (decP s) else false) else bif e == 11 then plainM s else bif e == 12 then (bif cleanM s then plainM (decP s) else false) else false
theorem cont_call (e : Int) (s : List UInt8) (he7 : e ≠ 7) (he9 : e ≠ 9) (hs : s.length ≤ 268435456) (k : Out → Ans) : iFun Tryz.prog (layCo.hd Tryz.prog) layCo.fhs 0 13 [.int .i64 e, .str s] [] k = k (.ret (.bool (contM e s)) []) := by
  refine (cont_fun e s k).trans ?_
  have hd := decR_len s.length s (by omega)
  have hd2 : (decP s).length ≤ 4 * s.length := hd
  have h7 : (e == 7) = false := by simpa using he7
  have h9 : (e == 9) = false := by simpa using he9
  have g1 : decide (s.length ≤ 268435456) = true := dT hs
  have g2 : decide ((decP s).length ≤ 1099511627776) = true := dT (by omega)
  have g3 : decide (s.length ≤ 1099511627776) = true := dT (by omega)
  simp only [g1, g2, g3, h7, h9, cond_true, cond_false]
  unfold contM
  cases h1 : e == 1 with
  | true =>
    simp only [h1, cond_true, cond_false]
  | false =>
  cases h2 : e == 2 with
  | true =>
    simp only [h1, h2, cond_true, cond_false]
    try rfl
  | false =>
  cases h3 : e == 3 with
  | true =>
    simp only [h1, h2, h3, cond_true, cond_false]
    try rfl
  | false =>
  cases h5 : e == 5 with
  | true =>
    simp only [h1, h2, h3, h5, cond_true, cond_false]
    try rfl
  | false =>
  cases h6 : e == 6 with
  | true =>
    simp only [h1, h2, h3, h5, h6, cond_true, cond_false]
    try rfl
  | false =>
  cases h4 : e == 4 with
  | true =>
    simp only [h1, h2, h3, h5, h6, h4, cond_true, cond_false]
    try rfl
  | false =>
  cases h8 : e == 8 with
  | true =>
    simp only [h1, h2, h3, h5, h6, h4, h8, cond_true, cond_false]
    try rfl
  | false =>
  cases h10 : e == 10 with
  | true =>
    simp only [h1, h2, h3, h5, h6, h4, h8, h10, cond_true, cond_false]
    try rfl
  | false =>
  cases h11 : e == 11 with
  | true =>
    simp only [h1, h2, h3, h5, h6, h4, h8, h10, h11, cond_true, cond_false]
    try rfl
  | false =>
  cases h12 : e == 12 with
  | true =>
    simp only [h1, h2, h3, h5, h6, h4, h8, h10, h11, h12, cond_true, cond_false]
    try rfl
  | false =>
  simp only [h1, h2, h3, h5, h6, h4, h8, h10, h11, h12, cond_true, cond_false]
  try rfl
theorem contTold_ok : ∀ xs H k out, contTold contM xs H k = some out → ∃ o, CallOK Tryz.prog 13 xs H o ∧ k o = some out := mkFS_ok fun ys xs e h => by
  obtain ⟨n, s, rfl⟩ : ∃ n s, xs = [.int .i64 n, .str s] := ⟨_, _, e⟩
  have h2 : n ≠ 7 ∧ n ≠ 9 ∧ s.length ≤ 268435456 := of_decide_eq_true h
  exact ⟨_, fun k => rfl, layCo_ok.callF (G := []) rfl (fun k => cont_call n s h2.1 h2.2.1 h2.2.2 k)⟩
theorem layRaw_ok : (layRaw contM anyI).OK Tryz.prog := ((((((Lay.nil_ok.addF contTold_ok).addF alive35Told_ok).addF hasTold_ok).addF rdecTold_ok).addF rschTold_ok).addF quietTold_ok).addF styTold_ok
theorem clean_has (a : List UInt8) : cleanM a = bif bif bif !anyI a 60 then !anyI a 62 else false then !anyI a 34 else false then !anyI a 39 else false := by
  rw [anyI_c a (show 60 < 256 by decide), anyI_c a (show 62 < 256 by decide), anyI_c a (show 34 < 256 by decide), anyI_c a (show 39 < 256 by decide)]
  unfold cleanM
  rw [cleanC_any, cleanC_any, cleanC_any, cleanC_any]
  generalize a.any (fun d => d == 60) = x
  generalize a.any (fun d => d == 62) = y
  generalize a.any (fun d => d == 34) = z
  generalize a.any (fun d => d == 39) = w
  cases x <;> cases y <;> cases z <;> cases w <;> rfl
theorem same_b (x : Bool) : (bif x == x then true else false) = true := by cases x <;> rfl
theorem raw_call (e : Int) (s : List UInt8) (hs : s.length ≤ 1048576) (k : Out → Ans) : iFun Tryz.prog ((layRaw contM anyI).hd Tryz.prog) (layRaw contM anyI).fhs 0 5 [.int .i64 e, .str s] [] k = k (.ret (.bool true) []) := by
  refine (raw_fun contM anyI e s k).trans ?_
  have hd := decR_len s.length s (by omega)
  have hd2 : (decP s).length ≤ 4 * s.length := hd
  have g0 : decide (s.length ≤ 1099511627776) = true := dT (by omega)
  have g1 : decide (s.length ≤ 268435456) = true := dT (by omega)
  have g4 : decide ((decP s).length ≤ 1099511627776) = true := dT (by omega)
  simp only [g0, g1, g4, ← clean_has, cond_true]
  by_cases he7 : e = 7
  · subst he7; rfl
  by_cases he9 : e = 9
  · subst he9; rfl
  have h7 : (e == 7) = false := by simpa using he7
  have h9 : (e == 9) = false := by simpa using he9
  have g2 : decide (e ≠ 7 ∧ e ≠ 9 ∧ s.length ≤ 268435456) = true := dT ⟨he7, he9, by omega⟩
  simp only [g2, h7, h9, cond_true, cond_false]
  have hA : ∀ t : List UInt8, (bif bif t == [104, 116, 116, 112] then true else t == [104, 116, 116, 112, 115] then true else t == [109, 97, 105, 108, 116, 111]) = alwM t := fun t => rfl
  simp only [hA]
  have fin : ∀ x : Bool, k (Out.ret (AVal.bool (bif x == x then true else false)) []) = k (.ret (.bool true) []) := fun x => by rw [same_b]
  unfold contM
  cases h1 : e == 1 with
  | true =>
    simp only [h1, cond_true, cond_false]
    exact fin _
  | false =>
  cases h2 : e == 2 with
  | true =>
    simp only [h1, h2, cond_true, cond_false]
    exact fin _
  | false =>
  cases h3 : e == 3 with
  | true =>
    simp only [h1, h2, h3, cond_true, cond_false]
    exact fin _
  | false =>
  cases h5 : e == 5 with
  | true =>
    simp only [h1, h2, h3, h5, cond_true, cond_false]
    exact fin _
  | false =>
  cases h6 : e == 6 with
  | true =>
    simp only [h1, h2, h3, h5, h6, cond_true, cond_false]
    exact fin _
  | false =>
  cases h4 : e == 4 with
  | true =>
    simp only [h1, h2, h3, h5, h6, h4, cond_true, cond_false]
    exact fin _
  | false =>
  cases h8 : e == 8 with
  | true =>
    simp only [h1, h2, h3, h5, h6, h4, h8, cond_true, cond_false]
    exact fin _
  | false =>
  cases h10 : e == 10 with
  | true =>
    simp only [h1, h2, h3, h5, h6, h4, h8, h10, cond_true, cond_false]
    exact fin _
  | false =>
  cases h11 : e == 11 with
  | true =>
    simp only [h1, h2, h3, h5, h6, h4, h8, h10, h11, cond_true, cond_false]
    exact fin _
  | false =>
  cases h12 : e == 12 with
  | true =>
    simp only [h1, h2, h3, h5, h6, h4, h8, h10, h11, h12, cond_true, cond_false]
    exact fin _
  | false =>
  simp only [h1, h2, h3, h5, h6, h4, h8, h10, h11, h12, cond_true, cond_false]
  exact fin _
theorem raw_ok (e : Int) (s : List UInt8) (hs : s.length ≤ 1048576) : CallOK Tryz.prog 5 [.int .i64 e, .str s] [] (.ret (.bool true) []) := layRaw_ok.call (raw_call e s hs)
end Go.Mu
set_option linter.unusedVariables false
namespace Go.Mu
open Go
variable {H : Type}
mutual
theorem size_bulk : ∀ d : DataW H, (tOf d).size ≤ Go.Proofs.YtfepcpcnfibbnaaGreatDoor.Rows.uptoBulk d
  | .lit (.bool _) => by simp [tOf, T.size, Go.Proofs.YtfepcpcnfibbnaaGreatDoor.Rows.uptoBulk]
  | .lit (.int _ _) => by simp [tOf, T.size, Go.Proofs.YtfepcpcnfibbnaaGreatDoor.Rows.uptoBulk]
  | .lit (.string _) => by simp [tOf, T.size, Go.Proofs.YtfepcpcnfibbnaaGreatDoor.Rows.uptoBulk]
  | .lit (.float _ _) => by simp [tOf, T.size, T.sizes, Go.Proofs.YtfepcpcnfibbnaaGreatDoor.Rows.uptoBulk]
  | .lit .nil => by simp [tOf, T.size, T.sizes, Go.Proofs.YtfepcpcnfibbnaaGreatDoor.Rows.uptoBulk]
  | .nil => by simp [tOf, T.size, T.sizes, Go.Proofs.YtfepcpcnfibbnaaGreatDoor.Rows.uptoBulk]
  | .ptr d => by simp [tOf, T.size, T.sizes, Go.Proofs.YtfepcpcnfibbnaaGreatDoor.Rows.uptoBulk]
  | .slice es sp => by
    have := size_bulks es
    simp only [tOf, T.size, Go.Proofs.YtfepcpcnfibbnaaGreatDoor.Rows.uptoBulk]
    omega
  | .agg ps => by
    have := size_bulks ps
    simp only [tOf, T.size, Go.Proofs.YtfepcpcnfibbnaaGreatDoor.Rows.uptoBulk]
    omega
  | .iface _ d => by simp [tOf, T.size, T.sizes, Go.Proofs.YtfepcpcnfibbnaaGreatDoor.Rows.uptoBulk]
  | .map _ => by simp [tOf, T.size, T.sizes, Go.Proofs.YtfepcpcnfibbnaaGreatDoor.Rows.uptoBulk]
  | .held _ => by simp [tOf, T.size, T.sizes, Go.Proofs.YtfepcpcnfibbnaaGreatDoor.Rows.uptoBulk]
theorem size_bulks : ∀ ds : List (DataW H), T.sizes (tOfs ds) ≤ Go.Proofs.YtfepcpcnfibbnaaGreatDoor.Rows.uptoBulkAll ds
  | [] => by simp [tOfs, T.sizes, Go.Proofs.YtfepcpcnfibbnaaGreatDoor.Rows.uptoBulkAll]
  | d :: ds => by
    have := size_bulk d
    have := size_bulks ds
    simp only [tOfs, T.sizes, Go.Proofs.YtfepcpcnfibbnaaGreatDoor.Rows.uptoBulkAll]
    omega
end
theorem small_size {ds : List (DataW H)} (h : Go.Proofs.YtfepcpcnfibbnaaGreatDoor.Rows.uptoSmall H ds = true) : T.sizes (tOfs ds) ≤ 1048576 := by
  unfold Go.Proofs.YtfepcpcnfibbnaaGreatDoor.Rows.uptoSmall at h
  have := size_bulks ds
  have := of_decide_eq_true h
  omega
end Go.Mu
