/-
  Lemmas on the given program (part 7).
-/
import Derived.Test.YtjaekcceagbefaaGreatDoorPM6
import Derived.Test.YtjaekcceagbefaaGreatDoorRows
import Derived.Lib.LaidU8
import Derived.Shelf.LaysM
import Derived.Test.YtjaekcceagbefaaGreatDoorProg
import Derived.KernelRfl
set_option linter.unusedVariables false
set_option linter.unusedSimpArgs false
set_option linter.constructorNameAsVariable false
set_option maxRecDepth 100000
namespace Go.Mu
open Go Go.Proofs
structure PwA where
 x : ItemD
 H : Heap
def ps0 : PsD := ⟨[], [], 0, 0, 0⟩
def wdN (x : ItemD) : PRes PcD := wordsP x ps0
noncomputable def pwTold : FSp := mkF (fun xs H => PwA.mk (decItem (cellsA (xs.getD 1 .undef))) H) (fun a => a.x.text.length ≤ 16384 ∧ 0 ≤ a.x.at_ ∧ a.x.at_ ≤ 16384) (fun a => [.ptr (.hp 4) 0, .agg (encItem a.x)]) (fun a => a.H) (fun a k => pOut (wdN a.x) pieceV (fun _ => a.H) k)
noncomputable def layN0 (okD okS : SgA → Prop) (okB : BkA → Prop) : Lay := ((((Lay.nil.addF 21 pwTold).addF 41 ixsTold).addF 24 (dfTold okD)).addF 26 (sgTold okS)).addF 25 (bkTold okB)
abbrev pcZ : List AVal := [nilList, .str [], .int .i64 0]
def outK (out : List NdD) (F : AVal → Heap → Ans) : Ans := cond out.isEmpty (F nilList []) (F (.own 5 0 (out.map encNd).length (out.length - 1) false) [.arr 9 (out.map encNd) (out.length - 1)])
def ndL (deep : Int) (it : AVal) (rows : List (List AVal)) (ver : Nat) (left size : Int) : LoopR := loopR deep [] (decSt it rows ver left size)
abbrev vsP (deep : Int) : List AVal := [.ptr (.hp 4) 0, .int .i64 deep, .undef, .ptr (.tmp 5) 0, .undef]
def ndPost (a : NdA) (k : AExit → List AVal → List (List AVal) → Heap → Ans) : Ans :=
 cond (ndL a.deep a.x.it a.x.rows a.x.ver a.x.left a.x.size).bad.isSome
  (outK (ndL a.deep a.x.it a.x.rows a.x.ver a.x.left a.x.size).v.1 fun o G => k (.panic (fltS ((ndL a.deep a.x.it a.x.rows a.x.ver a.x.left a.x.size).bad.getD (0, 0)).1 ((ndL a.deep a.x.it a.x.rows a.x.ver a.x.left a.x.size).bad.getD (0, 0)).2)) (vsP a.deep) [[]] (hpX a.x G (ndL a.deep a.x.it a.x.rows a.x.ver a.x.left a.x.size).s))
  (cond (ndL a.deep a.x.it a.x.rows a.x.ver a.x.left a.x.size).v.2.isSome
   (outK (ndL a.deep a.x.it a.x.rows a.x.ver a.x.left a.x.size).v.1 fun o G => k .ret [.ptr (.hp 4) 0, .int .i64 a.deep, o, .ptr (.tmp 5) 0, o] [encPc ((ndL a.deep a.x.it a.x.rows a.x.ver a.x.left a.x.size).v.2.getD pc0)] (hpX a.x G (ndL a.deep a.x.it a.x.rows a.x.ver a.x.left a.x.size).s))
   (outK (ndL a.deep a.x.it a.x.rows a.x.ver a.x.left a.x.size).v.1 fun o G => k (.exit 0) [.ptr (.hp 4) 0, .int .i64 a.deep, .undef, .ptr (.tmp 5) 0, o] [pcZ] (hpX a.x G (ndL a.deep a.x.it a.x.rows a.x.ver a.x.left a.x.size).s)))
noncomputable def ndSp (ok : NdA → Prop) : LSp := mkL (fun vs _ H => NdA.mk (PsX.dec H) [] (aI vs 1)) ok (fun a => [.ptr (.hp 4) 0, .int .i64 a.deep, .ptr (.tmp 5) 0, nilList]) (fun _ => [pcZ]) (fun a => a.x.heap) ndPost
noncomputable def ndFH (ok : NdA → Prop) : FH := FH.of [(2, loopSpec 109 [0,1,5,6] [5] [0,1,4,5,6] [5] (ndSp ok))]
theorem nd_step0 (okL : NdA → Prop) (okD okS : SgA → Prop) (okB : BkA → Prop) (U0 U1 U2 : Obj) (its : List ItemD) (rows : List (List AVal)) (ver : Nat) (left size deep : Int) (D : Dfs) (k : Kont) : lturn Tryz.prog (layN0 okD okS okB) (ndFH okL) 13 2 [0,1,5,6] [5] [0,1,4,5,6] [5] (stL 109 [0,1,5,6] [.ptr (.hp 4) 0, .int .i64 deep, .ptr (.tmp 5) 0, nilList] [5] [pcZ] (PsX.mk U0 U1 U2 (encIts its) rows ver left size).heap D) k = (
 let n0 : Int := (↑its.length : Int);
 let z4 := its.getD 0 (ItemD.mk 0 [] 0);
 let n1 : Int := z4.kind;
 let n2 : Int := z4.at_;
 let l3 : Oc := z4.text;
 let c4 : Bool := (wdN (ItemD.mk n1 l3 n2)).v.head == [101, 108, 115, 101];
 let m5 : Nat := (wdN (ItemD.mk n1 l3 n2)).v.words.length;
 let n6 : Int := (wdN (ItemD.mk n1 l3 n2)).v.at_;
 let z3 := [[AVal.str [105, 102]], [AVal.str [114, 97, 110, 103, 101]], [AVal.str [119, 105, 116, 104]]];
 let n7 : Int := idxS (decL decS (AVal.list true 3 fun (i : Nat) => z3.getD i [])) (wdN (ItemD.mk n1 l3 n2)).v.head;
 let n8 : Int := IntKind.i64.wrap (3 + n7);
 let z0 := wdN (ItemD.mk z4.kind z4.text z4.at_);
 let m9 : Nat := (bkN n8 (AVal.list false m5 fun (i : Nat) => encWq (z0.v.words.getD i wd0)) (wdN (ItemD.mk n1 l3 n2)).v.head n6 1 deep (AVal.list false (n0 - 1).toNat fun (i : Nat) => encItem (its.getD (Int.toNat 1 + i) (ItemD.mk 0 [] 0))) rows ver left size).s.ver;
 let m10 : Nat := (sgN (AVal.list false m5 fun (i : Nat) => encWq (z0.v.words.getD i wd0)) (wdN (ItemD.mk n1 l3 n2)).v.head n6 (AVal.list false (n0 - 1).toNat fun (i : Nat) => encItem (its.getD (Int.toNat 1 + i) (ItemD.mk 0 [] 0))) rows ver left size).s.ver;
 let z1 := [AVal.ptr (Oid.hp 4) 0, AVal.int .i64 deep, AVal.ptr (Oid.tmp 5) 0, AVal.own 5 0 (0 + 1) 0 false];
 let z2 := [AVal.ptr (Oid.hp 4) 0, AVal.int .i64 deep, AVal.undef, AVal.ptr (Oid.tmp 5) 0, AVal.undef];
 let z5 := AExit.panic (AVal.iface 41 (AVal.agg [AVal.int .i64 n6, AVal.int .i64 33]));
  bif decide (n0 > 0) then bif decide (0 < n0) then bif decide (1 ≤ n0) && decide (n0 ≤ n0) then bif n1 == 1 then bif !decide (size < 1024) then k (AExit.panic (AVal.iface 41 (AVal.agg [AVal.int .i64 n2, AVal.int .i64 3]))) (stL 109 [0, 1, 4, 5, 6] z2 [5] [[]] [U0, U1, U2, Obj.arr 2 rows ver, Obj.var [AVal.list false (n0 - 1).toNat fun (i : Nat) => encItem (its.getD (Int.toNat 1 + i) (ItemD.mk 0 [] 0)), AVal.own 3 0 rows.length ver false, AVal.int .i64 left, AVal.int .i64 size]] D) else k AExit.normal (stL 109 [0, 1, 5, 6] z1 [5] [[AVal.list true 0 fun (x : Nat) => [], AVal.str [], AVal.int .i64 0]] [U0, U1, U2, Obj.arr 2 rows ver, Obj.var [AVal.list false (n0 - 1).toNat fun (i : Nat) => encItem (its.getD (Int.toNat 1 + i) (ItemD.mk 0 [] 0)), AVal.own 3 0 rows.length ver false, AVal.int .i64 left, AVal.int .i64 (IntKind.i64.wrap (size + 1))], Obj.arr 9 [[AVal.int .i64 1, AVal.str l3, AVal.str [], AVal.list true 0 fun (x : Nat) => [], AVal.list true 0 fun (x : Nat) => [], AVal.list true 0 fun (x : Nat) => [], AVal.int .i64 n2, AVal.int .i64 0, AVal.int .i64 0]] 0] D) else bif tst ((l3.length ≤ 16384 ∧ 0 ≤ n2 ∧ n2 ≤ 16384) ∧ SubL [AVal.ptr (Oid.hp 4) 0, AVal.agg [AVal.int .i64 n1, AVal.str l3, AVal.int .i64 n2]] [AVal.ptr (Oid.hp 4) 0, AVal.agg (encItem (ItemD.mk n1 l3 n2))] ∧ [U0, U1, U2, Obj.arr 2 rows ver, Obj.var [AVal.list false (n0 - 1).toNat fun (i : Nat) => encItem (its.getD (Int.toNat 1 + i) (ItemD.mk 0 [] 0)), AVal.own 3 0 rows.length ver false, AVal.int .i64 left, AVal.int .i64 size]] = [U0, U1, U2, Obj.arr 2 rows ver, Obj.var [AVal.list false (n0 - 1).toNat fun (i : Nat) => encItem (its.getD (Int.toNat 1 + i) (ItemD.mk 0 [] 0)), AVal.own 3 0 rows.length ver false, AVal.int .i64 left, AVal.int .i64 size]]) then bif (wdN (ItemD.mk n1 l3 n2)).bad.isSome then k (AExit.panic (fltS ((wdN (ItemD.mk n1 l3 n2)).bad.getD (0, 0)).fst ((wdN (ItemD.mk n1 l3 n2)).bad.getD (0, 0)).snd)) (stL 109 [0, 1, 4, 5, 6] [AVal.ptr (Oid.hp 4) 0, AVal.int .i64 deep, AVal.undef, AVal.ptr (Oid.tmp 5) 0, AVal.list true 0 fun (x : Nat) => []] [5] [[]] [U0, U1, U2, Obj.arr 2 rows ver, Obj.var [AVal.list false (n0 - 1).toNat fun (i : Nat) => encItem (its.getD (Int.toNat 1 + i) (ItemD.mk 0 [] 0)), AVal.own 3 0 rows.length ver false, AVal.int .i64 left, AVal.int .i64 size]] D) else bif tst (3 ≤ 1099511627776 ∧ SubL [AVal.list true 3 fun (i : Nat) => z3.getD i [], AVal.str (wdN (ItemD.mk n1 l3 n2)).v.head] [ssL true (decL decS (AVal.list true 3 fun (i : Nat) => z3.getD i [])), AVal.str (wdN (ItemD.mk n1 l3 n2)).v.head] ∧ ([] : Heap) = []) then bif bif (wdN (ItemD.mk n1 l3 n2)).v.head == [101, 110, 100] then true else c4 then bif !bif decide (deep > 0) then bif c4 then true else (↑m5 : Int) == 1 else false then k z5 (stL 109 [0, 1, 4, 5, 6] [AVal.ptr (Oid.hp 4) 0, AVal.int .i64 deep, AVal.undef, AVal.ptr (Oid.tmp 5) 0, AVal.list true 0 fun (x : Nat) => []] [5] [[]] [U0, U1, U2, Obj.arr 2 rows ver, Obj.var [AVal.list false (n0 - 1).toNat fun (i : Nat) => encItem (its.getD (Int.toNat 1 + i) (ItemD.mk 0 [] 0)), AVal.own 3 0 rows.length ver false, AVal.int .i64 left, AVal.int .i64 size]] D) else k AExit.ret (stL 109 [0, 1, 4, 5, 6] [AVal.ptr (Oid.hp 4) 0, AVal.int .i64 deep, AVal.list true 0 fun (x : Nat) => [], AVal.ptr (Oid.tmp 5) 0, AVal.list true 0 fun (x : Nat) => []] [5] [[AVal.list false m5 fun (i : Nat) => encWq (z0.v.words.getD i wd0), AVal.str (wdN (ItemD.mk n1 l3 n2)).v.head, AVal.int .i64 n6]] [U0, U1, U2, Obj.arr 2 rows ver, Obj.var [AVal.list false (n0 - 1).toNat fun (i : Nat) => encItem (its.getD (Int.toNat 1 + i) (ItemD.mk 0 [] 0)), AVal.own 3 0 rows.length ver false, AVal.int .i64 left, AVal.int .i64 size]] D) else bif (wdN (ItemD.mk n1 l3 n2)).v.head == [100, 101, 102, 105, 110, 101] then bif !deep == 0 then k z5 (stL 109 [0, 1, 4, 5, 6] [AVal.ptr (Oid.hp 4) 0, AVal.int .i64 deep, AVal.undef, AVal.ptr (Oid.tmp 5) 0, AVal.list true 0 fun (x : Nat) => []] [5] [[]] [U0, U1, U2, Obj.arr 2 rows ver, Obj.var [AVal.list false (n0 - 1).toNat fun (i : Nat) => encItem (its.getD (Int.toNat 1 + i) (ItemD.mk 0 [] 0)), AVal.own 3 0 rows.length ver false, AVal.int .i64 left, AVal.int .i64 size]] D) else bif tst (okD (SgA.mk (PsX.mk U0 U1 U2 (AVal.list false (n0 - 1).toNat fun (i : Nat) => encItem (its.getD (Int.toNat 1 + i) (ItemD.mk 0 [] 0))) rows ver left size) (List.drop 5 [U0, U1, U2, Obj.arr 2 rows ver, Obj.var [AVal.list false (n0 - 1).toNat fun (i : Nat) => encItem (its.getD (Int.toNat 1 + i) (ItemD.mk 0 [] 0)), AVal.own 3 0 rows.length ver false, AVal.int .i64 left, AVal.int .i64 size]]) (AVal.list false m5 fun (i : Nat) => encWq (z0.v.words.getD i wd0)) (wdN (ItemD.mk n1 l3 n2)).v.head n6) ∧ SubL [AVal.ptr (Oid.hp 4) 0, AVal.agg [AVal.list false m5 fun (i : Nat) => encWq (z0.v.words.getD i wd0), AVal.str (wdN (ItemD.mk n1 l3 n2)).v.head, AVal.int .i64 n6]] [AVal.ptr (Oid.hp 4) 0, AVal.agg [AVal.list false m5 fun (i : Nat) => encWq (z0.v.words.getD i wd0), AVal.str (wdN (ItemD.mk n1 l3 n2)).v.head, AVal.int .i64 n6]] ∧ [U0, U1, U2, Obj.arr 2 rows ver, Obj.var [AVal.list false (n0 - 1).toNat fun (i : Nat) => encItem (its.getD (Int.toNat 1 + i) (ItemD.mk 0 [] 0)), AVal.own 3 0 rows.length ver false, AVal.int .i64 left, AVal.int .i64 size]] = [U0, U1, U2, Obj.arr 2 rows ver, Obj.var [AVal.list false (n0 - 1).toNat fun (i : Nat) => encItem (its.getD (Int.toNat 1 + i) (ItemD.mk 0 [] 0)), AVal.own 3 0 rows.length ver false, AVal.int .i64 left, AVal.int .i64 size]]) then bif (dfN (AVal.list false m5 fun (i : Nat) => encWq (z0.v.words.getD i wd0)) (wdN (ItemD.mk n1 l3 n2)).v.head n6 (AVal.list false (n0 - 1).toNat fun (i : Nat) => encItem (its.getD (Int.toNat 1 + i) (ItemD.mk 0 [] 0))) rows ver left size).bad.isSome then k (AExit.panic (fltS ((dfN (AVal.list false m5 fun (i : Nat) => encWq (z0.v.words.getD i wd0)) (wdN (ItemD.mk n1 l3 n2)).v.head n6 (AVal.list false (n0 - 1).toNat fun (i : Nat) => encItem (its.getD (Int.toNat 1 + i) (ItemD.mk 0 [] 0))) rows ver left size).bad.getD (0, 0)).fst ((dfN (AVal.list false m5 fun (i : Nat) => encWq (z0.v.words.getD i wd0)) (wdN (ItemD.mk n1 l3 n2)).v.head n6 (AVal.list false (n0 - 1).toNat fun (i : Nat) => encItem (its.getD (Int.toNat 1 + i) (ItemD.mk 0 [] 0))) rows ver left size).bad.getD (0, 0)).snd)) (stL 109 [0, 1, 4, 5, 6] [AVal.ptr (Oid.hp 4) 0, AVal.int .i64 deep, AVal.undef, AVal.ptr (Oid.tmp 5) 0, AVal.list true 0 fun (x : Nat) => []] [5] [[]] (hpX (PsX.mk U0 U1 U2 (AVal.list false (n0 - 1).toNat fun (i : Nat) => encItem (its.getD (Int.toNat 1 + i) (ItemD.mk 0 [] 0))) rows ver left size) (List.drop 5 [U0, U1, U2, Obj.arr 2 rows ver, Obj.var [AVal.list false (n0 - 1).toNat fun (i : Nat) => encItem (its.getD (Int.toNat 1 + i) (ItemD.mk 0 [] 0)), AVal.own 3 0 rows.length ver false, AVal.int .i64 left, AVal.int .i64 size]]) (dfN (AVal.list false m5 fun (i : Nat) => encWq (z0.v.words.getD i wd0)) (wdN (ItemD.mk n1 l3 n2)).v.head n6 (AVal.list false (n0 - 1).toNat fun (i : Nat) => encItem (its.getD (Int.toNat 1 + i) (ItemD.mk 0 [] 0))) rows ver left size).s) D) else k AExit.normal (stL 109 [0, 1, 5, 6] [AVal.ptr (Oid.hp 4) 0, AVal.int .i64 deep, AVal.ptr (Oid.tmp 5) 0, AVal.list true 0 fun (x : Nat) => []] [5] [[AVal.list true 0 fun (x : Nat) => [], AVal.str [], AVal.int .i64 0]] (hpX (PsX.mk U0 U1 U2 (AVal.list false (n0 - 1).toNat fun (i : Nat) => encItem (its.getD (Int.toNat 1 + i) (ItemD.mk 0 [] 0))) rows ver left size) (List.drop 5 [U0, U1, U2, Obj.arr 2 rows ver, Obj.var [AVal.list false (n0 - 1).toNat fun (i : Nat) => encItem (its.getD (Int.toNat 1 + i) (ItemD.mk 0 [] 0)), AVal.own 3 0 rows.length ver false, AVal.int .i64 left, AVal.int .i64 size]]) (dfN (AVal.list false m5 fun (i : Nat) => encWq (z0.v.words.getD i wd0)) (wdN (ItemD.mk n1 l3 n2)).v.head n6 (AVal.list false (n0 - 1).toNat fun (i : Nat) => encItem (its.getD (Int.toNat 1 + i) (ItemD.mk 0 [] 0))) rows ver left size).s) D) else none else bif decide (n7 ≥ 0) then bif tst (okB (BkA.mk (PsX.mk U0 U1 U2 (AVal.list false (n0 - 1).toNat fun (i : Nat) => encItem (its.getD (Int.toNat 1 + i) (ItemD.mk 0 [] 0))) rows ver left size) (List.drop 5 [U0, U1, U2, Obj.arr 2 rows ver, Obj.var [AVal.list false (n0 - 1).toNat fun (i : Nat) => encItem (its.getD (Int.toNat 1 + i) (ItemD.mk 0 [] 0)), AVal.own 3 0 rows.length ver false, AVal.int .i64 left, AVal.int .i64 size]]) n8 (AVal.list false m5 fun (i : Nat) => encWq (z0.v.words.getD i wd0)) (wdN (ItemD.mk n1 l3 n2)).v.head n6 1 deep) ∧ SubL [AVal.ptr (Oid.hp 4) 0, AVal.int .i64 n8, AVal.agg [AVal.list false m5 fun (i : Nat) => encWq (z0.v.words.getD i wd0), AVal.str (wdN (ItemD.mk n1 l3 n2)).v.head, AVal.int .i64 n6], AVal.int .i64 1, AVal.int .i64 deep] [AVal.ptr (Oid.hp 4) 0, AVal.int .i64 n8, AVal.agg [AVal.list false m5 fun (i : Nat) => encWq (z0.v.words.getD i wd0), AVal.str (wdN (ItemD.mk n1 l3 n2)).v.head, AVal.int .i64 n6], AVal.int .i64 1, AVal.int .i64 deep] ∧ [U0, U1, U2, Obj.arr 2 rows ver, Obj.var [AVal.list false (n0 - 1).toNat fun (i : Nat) => encItem (its.getD (Int.toNat 1 + i) (ItemD.mk 0 [] 0)), AVal.own 3 0 rows.length ver false, AVal.int .i64 left, AVal.int .i64 size]] = [U0, U1, U2, Obj.arr 2 rows ver, Obj.var [AVal.list false (n0 - 1).toNat fun (i : Nat) => encItem (its.getD (Int.toNat 1 + i) (ItemD.mk 0 [] 0)), AVal.own 3 0 rows.length ver false, AVal.int .i64 left, AVal.int .i64 size]]) then bif (bkN n8 (AVal.list false m5 fun (i : Nat) => encWq (z0.v.words.getD i wd0)) (wdN (ItemD.mk n1 l3 n2)).v.head n6 1 deep (AVal.list false (n0 - 1).toNat fun (i : Nat) => encItem (its.getD (Int.toNat 1 + i) (ItemD.mk 0 [] 0))) rows ver left size).bad.isSome then k (AExit.panic (fltS ((bkN n8 (AVal.list false m5 fun (i : Nat) => encWq (z0.v.words.getD i wd0)) (wdN (ItemD.mk n1 l3 n2)).v.head n6 1 deep (AVal.list false (n0 - 1).toNat fun (i : Nat) => encItem (its.getD (Int.toNat 1 + i) (ItemD.mk 0 [] 0))) rows ver left size).bad.getD (0, 0)).fst ((bkN n8 (AVal.list false m5 fun (i : Nat) => encWq (z0.v.words.getD i wd0)) (wdN (ItemD.mk n1 l3 n2)).v.head n6 1 deep (AVal.list false (n0 - 1).toNat fun (i : Nat) => encItem (its.getD (Int.toNat 1 + i) (ItemD.mk 0 [] 0))) rows ver left size).bad.getD (0, 0)).snd)) (stL 109 [0, 1, 4, 5, 6] z2 [5] [[]] (hpX (PsX.mk U0 U1 U2 (AVal.list false (n0 - 1).toNat fun (i : Nat) => encItem (its.getD (Int.toNat 1 + i) (ItemD.mk 0 [] 0))) rows ver left size) (List.drop 5 [U0, U1, U2, Obj.arr 2 rows ver, Obj.var [AVal.list false (n0 - 1).toNat fun (i : Nat) => encItem (its.getD (Int.toNat 1 + i) (ItemD.mk 0 [] 0)), AVal.own 3 0 rows.length ver false, AVal.int .i64 left, AVal.int .i64 size]]) (bkN n8 (AVal.list false m5 fun (i : Nat) => encWq (z0.v.words.getD i wd0)) (wdN (ItemD.mk n1 l3 n2)).v.head n6 1 deep (AVal.list false (n0 - 1).toNat fun (i : Nat) => encItem (its.getD (Int.toNat 1 + i) (ItemD.mk 0 [] 0))) rows ver left size).s) D) else k AExit.normal (stL 109 [0, 1, 5, 6] z1 [5] [[AVal.list true 0 fun (x : Nat) => [], AVal.str [], AVal.int .i64 0]] [U0, U1, U2, Obj.arr 2 (List.map encDf (bkN n8 (AVal.list false m5 fun (i : Nat) => encWq (z0.v.words.getD i wd0)) (wdN (ItemD.mk n1 l3 n2)).v.head n6 1 deep (AVal.list false (n0 - 1).toNat fun (i : Nat) => encItem (its.getD (Int.toNat 1 + i) (ItemD.mk 0 [] 0))) rows ver left size).s.defs) m9, Obj.var [encIts (bkN n8 (AVal.list false m5 fun (i : Nat) => encWq (z0.v.words.getD i wd0)) (wdN (ItemD.mk n1 l3 n2)).v.head n6 1 deep (AVal.list false (n0 - 1).toNat fun (i : Nat) => encItem (its.getD (Int.toNat 1 + i) (ItemD.mk 0 [] 0))) rows ver left size).s.items, AVal.own 3 0 (List.map encDf (bkN n8 (AVal.list false m5 fun (i : Nat) => encWq (z0.v.words.getD i wd0)) (wdN (ItemD.mk n1 l3 n2)).v.head n6 1 deep (AVal.list false (n0 - 1).toNat fun (i : Nat) => encItem (its.getD (Int.toNat 1 + i) (ItemD.mk 0 [] 0))) rows ver left size).s.defs).length m9 false, AVal.int .i64 (bkN n8 (AVal.list false m5 fun (i : Nat) => encWq (z0.v.words.getD i wd0)) (wdN (ItemD.mk n1 l3 n2)).v.head n6 1 deep (AVal.list false (n0 - 1).toNat fun (i : Nat) => encItem (its.getD (Int.toNat 1 + i) (ItemD.mk 0 [] 0))) rows ver left size).s.left, AVal.int .i64 (bkN n8 (AVal.list false m5 fun (i : Nat) => encWq (z0.v.words.getD i wd0)) (wdN (ItemD.mk n1 l3 n2)).v.head n6 1 deep (AVal.list false (n0 - 1).toNat fun (i : Nat) => encItem (its.getD (Int.toNat 1 + i) (ItemD.mk 0 [] 0))) rows ver left size).s.size], Obj.arr 9 [[AVal.int .i64 (bkN n8 (AVal.list false m5 fun (i : Nat) => encWq (z0.v.words.getD i wd0)) (wdN (ItemD.mk n1 l3 n2)).v.head n6 1 deep (AVal.list false (n0 - 1).toNat fun (i : Nat) => encItem (its.getD (Int.toNat 1 + i) (ItemD.mk 0 [] 0))) rows ver left size).v.kind, AVal.str (bkN n8 (AVal.list false m5 fun (i : Nat) => encWq (z0.v.words.getD i wd0)) (wdN (ItemD.mk n1 l3 n2)).v.head n6 1 deep (AVal.list false (n0 - 1).toNat fun (i : Nat) => encItem (its.getD (Int.toNat 1 + i) (ItemD.mk 0 [] 0))) rows ver left size).v.text, AVal.str (bkN n8 (AVal.list false m5 fun (i : Nat) => encWq (z0.v.words.getD i wd0)) (wdN (ItemD.mk n1 l3 n2)).v.head n6 1 deep (AVal.list false (n0 - 1).toNat fun (i : Nat) => encItem (its.getD (Int.toNat 1 + i) (ItemD.mk 0 [] 0))) rows ver left size).v.name, AVal.list (bkN n8 (AVal.list false m5 fun (i : Nat) => encWq (z0.v.words.getD i wd0)) (wdN (ItemD.mk n1 l3 n2)).v.head n6 1 deep (AVal.list false (n0 - 1).toNat fun (i : Nat) => encItem (its.getD (Int.toNat 1 + i) (ItemD.mk 0 [] 0))) rows ver left size).v.pf (bkN n8 (AVal.list false m5 fun (i : Nat) => encWq (z0.v.words.getD i wd0)) (wdN (ItemD.mk n1 l3 n2)).v.head n6 1 deep (AVal.list false (n0 - 1).toNat fun (i : Nat) => encItem (its.getD (Int.toNat 1 + i) (ItemD.mk 0 [] 0))) rows ver left size).v.pn (bkN n8 (AVal.list false m5 fun (i : Nat) => encWq (z0.v.words.getD i wd0)) (wdN (ItemD.mk n1 l3 n2)).v.head n6 1 deep (AVal.list false (n0 - 1).toNat fun (i : Nat) => encItem (its.getD (Int.toNat 1 + i) (ItemD.mk 0 [] 0))) rows ver left size).v.pr, AVal.list (bkN n8 (AVal.list false m5 fun (i : Nat) => encWq (z0.v.words.getD i wd0)) (wdN (ItemD.mk n1 l3 n2)).v.head n6 1 deep (AVal.list false (n0 - 1).toNat fun (i : Nat) => encItem (its.getD (Int.toNat 1 + i) (ItemD.mk 0 [] 0))) rows ver left size).v.bf (bkN n8 (AVal.list false m5 fun (i : Nat) => encWq (z0.v.words.getD i wd0)) (wdN (ItemD.mk n1 l3 n2)).v.head n6 1 deep (AVal.list false (n0 - 1).toNat fun (i : Nat) => encItem (its.getD (Int.toNat 1 + i) (ItemD.mk 0 [] 0))) rows ver left size).v.bn (bkN n8 (AVal.list false m5 fun (i : Nat) => encWq (z0.v.words.getD i wd0)) (wdN (ItemD.mk n1 l3 n2)).v.head n6 1 deep (AVal.list false (n0 - 1).toNat fun (i : Nat) => encItem (its.getD (Int.toNat 1 + i) (ItemD.mk 0 [] 0))) rows ver left size).v.br, AVal.list (bkN n8 (AVal.list false m5 fun (i : Nat) => encWq (z0.v.words.getD i wd0)) (wdN (ItemD.mk n1 l3 n2)).v.head n6 1 deep (AVal.list false (n0 - 1).toNat fun (i : Nat) => encItem (its.getD (Int.toNat 1 + i) (ItemD.mk 0 [] 0))) rows ver left size).v.ef (bkN n8 (AVal.list false m5 fun (i : Nat) => encWq (z0.v.words.getD i wd0)) (wdN (ItemD.mk n1 l3 n2)).v.head n6 1 deep (AVal.list false (n0 - 1).toNat fun (i : Nat) => encItem (its.getD (Int.toNat 1 + i) (ItemD.mk 0 [] 0))) rows ver left size).v.en (bkN n8 (AVal.list false m5 fun (i : Nat) => encWq (z0.v.words.getD i wd0)) (wdN (ItemD.mk n1 l3 n2)).v.head n6 1 deep (AVal.list false (n0 - 1).toNat fun (i : Nat) => encItem (its.getD (Int.toNat 1 + i) (ItemD.mk 0 [] 0))) rows ver left size).v.er, AVal.int .i64 (bkN n8 (AVal.list false m5 fun (i : Nat) => encWq (z0.v.words.getD i wd0)) (wdN (ItemD.mk n1 l3 n2)).v.head n6 1 deep (AVal.list false (n0 - 1).toNat fun (i : Nat) => encItem (its.getD (Int.toNat 1 + i) (ItemD.mk 0 [] 0))) rows ver left size).v.at_, AVal.int .i64 (bkN n8 (AVal.list false m5 fun (i : Nat) => encWq (z0.v.words.getD i wd0)) (wdN (ItemD.mk n1 l3 n2)).v.head n6 1 deep (AVal.list false (n0 - 1).toNat fun (i : Nat) => encItem (its.getD (Int.toNat 1 + i) (ItemD.mk 0 [] 0))) rows ver left size).v.esc, AVal.int .i64 (bkN n8 (AVal.list false m5 fun (i : Nat) => encWq (z0.v.words.getD i wd0)) (wdN (ItemD.mk n1 l3 n2)).v.head n6 1 deep (AVal.list false (n0 - 1).toNat fun (i : Nat) => encItem (its.getD (Int.toNat 1 + i) (ItemD.mk 0 [] 0))) rows ver left size).v.unit]] 0] D) else none else bif tst (okS (SgA.mk (PsX.mk U0 U1 U2 (AVal.list false (n0 - 1).toNat fun (i : Nat) => encItem (its.getD (Int.toNat 1 + i) (ItemD.mk 0 [] 0))) rows ver left size) (List.drop 5 [U0, U1, U2, Obj.arr 2 rows ver, Obj.var [AVal.list false (n0 - 1).toNat fun (i : Nat) => encItem (its.getD (Int.toNat 1 + i) (ItemD.mk 0 [] 0)), AVal.own 3 0 rows.length ver false, AVal.int .i64 left, AVal.int .i64 size]]) (AVal.list false m5 fun (i : Nat) => encWq (z0.v.words.getD i wd0)) (wdN (ItemD.mk n1 l3 n2)).v.head n6) ∧ SubL [AVal.ptr (Oid.hp 4) 0, AVal.agg [AVal.list false m5 fun (i : Nat) => encWq (z0.v.words.getD i wd0), AVal.str (wdN (ItemD.mk n1 l3 n2)).v.head, AVal.int .i64 n6]] [AVal.ptr (Oid.hp 4) 0, AVal.agg [AVal.list false m5 fun (i : Nat) => encWq (z0.v.words.getD i wd0), AVal.str (wdN (ItemD.mk n1 l3 n2)).v.head, AVal.int .i64 n6]] ∧ [U0, U1, U2, Obj.arr 2 rows ver, Obj.var [AVal.list false (n0 - 1).toNat fun (i : Nat) => encItem (its.getD (Int.toNat 1 + i) (ItemD.mk 0 [] 0)), AVal.own 3 0 rows.length ver false, AVal.int .i64 left, AVal.int .i64 size]] = [U0, U1, U2, Obj.arr 2 rows ver, Obj.var [AVal.list false (n0 - 1).toNat fun (i : Nat) => encItem (its.getD (Int.toNat 1 + i) (ItemD.mk 0 [] 0)), AVal.own 3 0 rows.length ver false, AVal.int .i64 left, AVal.int .i64 size]]) then bif (sgN (AVal.list false m5 fun (i : Nat) => encWq (z0.v.words.getD i wd0)) (wdN (ItemD.mk n1 l3 n2)).v.head n6 (AVal.list false (n0 - 1).toNat fun (i : Nat) => encItem (its.getD (Int.toNat 1 + i) (ItemD.mk 0 [] 0))) rows ver left size).bad.isSome then k (AExit.panic (fltS ((sgN (AVal.list false m5 fun (i : Nat) => encWq (z0.v.words.getD i wd0)) (wdN (ItemD.mk n1 l3 n2)).v.head n6 (AVal.list false (n0 - 1).toNat fun (i : Nat) => encItem (its.getD (Int.toNat 1 + i) (ItemD.mk 0 [] 0))) rows ver left size).bad.getD (0, 0)).fst ((sgN (AVal.list false m5 fun (i : Nat) => encWq (z0.v.words.getD i wd0)) (wdN (ItemD.mk n1 l3 n2)).v.head n6 (AVal.list false (n0 - 1).toNat fun (i : Nat) => encItem (its.getD (Int.toNat 1 + i) (ItemD.mk 0 [] 0))) rows ver left size).bad.getD (0, 0)).snd)) (stL 109 [0, 1, 4, 5, 6] z2 [5] [[]] (hpX (PsX.mk U0 U1 U2 (AVal.list false (n0 - 1).toNat fun (i : Nat) => encItem (its.getD (Int.toNat 1 + i) (ItemD.mk 0 [] 0))) rows ver left size) (List.drop 5 [U0, U1, U2, Obj.arr 2 rows ver, Obj.var [AVal.list false (n0 - 1).toNat fun (i : Nat) => encItem (its.getD (Int.toNat 1 + i) (ItemD.mk 0 [] 0)), AVal.own 3 0 rows.length ver false, AVal.int .i64 left, AVal.int .i64 size]]) (sgN (AVal.list false m5 fun (i : Nat) => encWq (z0.v.words.getD i wd0)) (wdN (ItemD.mk n1 l3 n2)).v.head n6 (AVal.list false (n0 - 1).toNat fun (i : Nat) => encItem (its.getD (Int.toNat 1 + i) (ItemD.mk 0 [] 0))) rows ver left size).s) D) else k AExit.normal (stL 109 [0, 1, 5, 6] z1 [5] [[AVal.list true 0 fun (x : Nat) => [], AVal.str [], AVal.int .i64 0]] [U0, U1, U2, Obj.arr 2 (List.map encDf (sgN (AVal.list false m5 fun (i : Nat) => encWq (z0.v.words.getD i wd0)) (wdN (ItemD.mk n1 l3 n2)).v.head n6 (AVal.list false (n0 - 1).toNat fun (i : Nat) => encItem (its.getD (Int.toNat 1 + i) (ItemD.mk 0 [] 0))) rows ver left size).s.defs) m10, Obj.var [encIts (sgN (AVal.list false m5 fun (i : Nat) => encWq (z0.v.words.getD i wd0)) (wdN (ItemD.mk n1 l3 n2)).v.head n6 (AVal.list false (n0 - 1).toNat fun (i : Nat) => encItem (its.getD (Int.toNat 1 + i) (ItemD.mk 0 [] 0))) rows ver left size).s.items, AVal.own 3 0 (List.map encDf (sgN (AVal.list false m5 fun (i : Nat) => encWq (z0.v.words.getD i wd0)) (wdN (ItemD.mk n1 l3 n2)).v.head n6 (AVal.list false (n0 - 1).toNat fun (i : Nat) => encItem (its.getD (Int.toNat 1 + i) (ItemD.mk 0 [] 0))) rows ver left size).s.defs).length m10 false, AVal.int .i64 (sgN (AVal.list false m5 fun (i : Nat) => encWq (z0.v.words.getD i wd0)) (wdN (ItemD.mk n1 l3 n2)).v.head n6 (AVal.list false (n0 - 1).toNat fun (i : Nat) => encItem (its.getD (Int.toNat 1 + i) (ItemD.mk 0 [] 0))) rows ver left size).s.left, AVal.int .i64 (sgN (AVal.list false m5 fun (i : Nat) => encWq (z0.v.words.getD i wd0)) (wdN (ItemD.mk n1 l3 n2)).v.head n6 (AVal.list false (n0 - 1).toNat fun (i : Nat) => encItem (its.getD (Int.toNat 1 + i) (ItemD.mk 0 [] 0))) rows ver left size).s.size], Obj.arr 9 [[AVal.int .i64 (sgN (AVal.list false m5 fun (i : Nat) => encWq (z0.v.words.getD i wd0)) (wdN (ItemD.mk n1 l3 n2)).v.head n6 (AVal.list false (n0 - 1).toNat fun (i : Nat) => encItem (its.getD (Int.toNat 1 + i) (ItemD.mk 0 [] 0))) rows ver left size).v.kind, AVal.str (sgN (AVal.list false m5 fun (i : Nat) => encWq (z0.v.words.getD i wd0)) (wdN (ItemD.mk n1 l3 n2)).v.head n6 (AVal.list false (n0 - 1).toNat fun (i : Nat) => encItem (its.getD (Int.toNat 1 + i) (ItemD.mk 0 [] 0))) rows ver left size).v.text, AVal.str (sgN (AVal.list false m5 fun (i : Nat) => encWq (z0.v.words.getD i wd0)) (wdN (ItemD.mk n1 l3 n2)).v.head n6 (AVal.list false (n0 - 1).toNat fun (i : Nat) => encItem (its.getD (Int.toNat 1 + i) (ItemD.mk 0 [] 0))) rows ver left size).v.name, AVal.list (sgN (AVal.list false m5 fun (i : Nat) => encWq (z0.v.words.getD i wd0)) (wdN (ItemD.mk n1 l3 n2)).v.head n6 (AVal.list false (n0 - 1).toNat fun (i : Nat) => encItem (its.getD (Int.toNat 1 + i) (ItemD.mk 0 [] 0))) rows ver left size).v.pf (sgN (AVal.list false m5 fun (i : Nat) => encWq (z0.v.words.getD i wd0)) (wdN (ItemD.mk n1 l3 n2)).v.head n6 (AVal.list false (n0 - 1).toNat fun (i : Nat) => encItem (its.getD (Int.toNat 1 + i) (ItemD.mk 0 [] 0))) rows ver left size).v.pn (sgN (AVal.list false m5 fun (i : Nat) => encWq (z0.v.words.getD i wd0)) (wdN (ItemD.mk n1 l3 n2)).v.head n6 (AVal.list false (n0 - 1).toNat fun (i : Nat) => encItem (its.getD (Int.toNat 1 + i) (ItemD.mk 0 [] 0))) rows ver left size).v.pr, AVal.list (sgN (AVal.list false m5 fun (i : Nat) => encWq (z0.v.words.getD i wd0)) (wdN (ItemD.mk n1 l3 n2)).v.head n6 (AVal.list false (n0 - 1).toNat fun (i : Nat) => encItem (its.getD (Int.toNat 1 + i) (ItemD.mk 0 [] 0))) rows ver left size).v.bf (sgN (AVal.list false m5 fun (i : Nat) => encWq (z0.v.words.getD i wd0)) (wdN (ItemD.mk n1 l3 n2)).v.head n6 (AVal.list false (n0 - 1).toNat fun (i : Nat) => encItem (its.getD (Int.toNat 1 + i) (ItemD.mk 0 [] 0))) rows ver left size).v.bn (sgN (AVal.list false m5 fun (i : Nat) => encWq (z0.v.words.getD i wd0)) (wdN (ItemD.mk n1 l3 n2)).v.head n6 (AVal.list false (n0 - 1).toNat fun (i : Nat) => encItem (its.getD (Int.toNat 1 + i) (ItemD.mk 0 [] 0))) rows ver left size).v.br, AVal.list (sgN (AVal.list false m5 fun (i : Nat) => encWq (z0.v.words.getD i wd0)) (wdN (ItemD.mk n1 l3 n2)).v.head n6 (AVal.list false (n0 - 1).toNat fun (i : Nat) => encItem (its.getD (Int.toNat 1 + i) (ItemD.mk 0 [] 0))) rows ver left size).v.ef (sgN (AVal.list false m5 fun (i : Nat) => encWq (z0.v.words.getD i wd0)) (wdN (ItemD.mk n1 l3 n2)).v.head n6 (AVal.list false (n0 - 1).toNat fun (i : Nat) => encItem (its.getD (Int.toNat 1 + i) (ItemD.mk 0 [] 0))) rows ver left size).v.en (sgN (AVal.list false m5 fun (i : Nat) => encWq (z0.v.words.getD i wd0)) (wdN (ItemD.mk n1 l3 n2)).v.head n6 (AVal.list false (n0 - 1).toNat fun (i : Nat) => encItem (its.getD (Int.toNat 1 + i) (ItemD.mk 0 [] 0))) rows ver left size).v.er, AVal.int .i64 (sgN (AVal.list false m5 fun (i : Nat) => encWq (z0.v.words.getD i wd0)) (wdN (ItemD.mk n1 l3 n2)).v.head n6 (AVal.list false (n0 - 1).toNat fun (i : Nat) => encItem (its.getD (Int.toNat 1 + i) (ItemD.mk 0 [] 0))) rows ver left size).v.at_, AVal.int .i64 (sgN (AVal.list false m5 fun (i : Nat) => encWq (z0.v.words.getD i wd0)) (wdN (ItemD.mk n1 l3 n2)).v.head n6 (AVal.list false (n0 - 1).toNat fun (i : Nat) => encItem (its.getD (Int.toNat 1 + i) (ItemD.mk 0 [] 0))) rows ver left size).v.esc, AVal.int .i64 (sgN (AVal.list false m5 fun (i : Nat) => encWq (z0.v.words.getD i wd0)) (wdN (ItemD.mk n1 l3 n2)).v.head n6 (AVal.list false (n0 - 1).toNat fun (i : Nat) => encItem (its.getD (Int.toNat 1 + i) (ItemD.mk 0 [] 0))) rows ver left size).v.unit]] 0] D) else none else none else none else none else none else k (AExit.exit 0) (stL 109 [0, 1, 4, 5, 6] [AVal.ptr (Oid.hp 4) 0, AVal.int .i64 deep, AVal.undef, AVal.ptr (Oid.tmp 5) 0, AVal.list true 0 fun (x : Nat) => []] [5] [[AVal.list true 0 fun (x : Nat) => [], AVal.str [], AVal.int .i64 0]] (PsX.mk U0 U1 U2 (encIts its) rows ver left size).heap D)) := by kernel_rfl
theorem nd_step1 (okL : NdA → Prop) (okD okS : SgA → Prop) (okB : BkA → Prop) (U0 U1 U2 : Obj) (its : List ItemD) (rows : List (List AVal)) (ver : Nat) (left size deep : Int) (nr : List (List AVal)) (nv : Nat) (D : Dfs) (k : Kont) : lturn Tryz.prog (layN0 okD okS okB) (ndFH okL) 13 2 [0,1,5,6] [5] [0,1,4,5,6] [5] (stL 109 [0,1,5,6] [.ptr (.hp 4) 0, .int .i64 deep, .ptr (.tmp 5) 0, .own 5 0 nr.length nv false] [5] [pcZ] ((PsX.mk U0 U1 U2 (encIts its) rows ver left size).heap ++ [.arr 9 nr nv]) D) k = (
 let n0 : Int := (↑its.length : Int);
 let z5 := its.getD 0 (ItemD.mk 0 [] 0);
 let n1 : Int := z5.kind;
 let c2 : Bool := nv == nv;
 let n3 : Int := (↑nr.length : Int);
 let n4 : Int := IntKind.i64.wrap (n3 - 1);
 let c5 : Bool := c2 && decide (0 ≤ n4) && decide (n4 < n3);
 let c6 : Bool := decide (n4 ≥ 0);
 let c7 : Bool := !c6;
 let m8 : Nat := 0 + n4.toNat;
 let c9 : Bool := c2 && decide (m8 < nr.length) && true;
 let l10 : Oc := strOf ((nr.getD m8 []).getD 1 AVal.undef);
 let l11 : Oc := z5.text;
 let m12 : Nat := l11.length;
 let n13 : Int := z5.at_;
 let m14 : Nat := nr.length + 1;
 let c15 : Bool := c2 && nr.length == nr.length && decide ((2 * m14 + 1000) * 136 ≤ 281474976710656) && true;
 let m16 : Nat := nv + 1;
 let c17 : Bool := (wdN (ItemD.mk n1 l11 n13)).v.head == [101, 108, 115, 101];
 let m18 : Nat := (wdN (ItemD.mk n1 l11 n13)).v.words.length;
 let n19 : Int := (wdN (ItemD.mk n1 l11 n13)).v.at_;
 let z4 := [[AVal.str [105, 102]], [AVal.str [114, 97, 110, 103, 101]], [AVal.str [119, 105, 116, 104]]];
 let n20 : Int := idxS (decL decS (AVal.list true 3 fun (i : Nat) => z4.getD i [])) (wdN (ItemD.mk n1 l11 n13)).v.head;
 let n21 : Int := IntKind.i64.wrap (3 + n20);
 let z0 := wdN (ItemD.mk z5.kind z5.text z5.at_);
 let m22 : Nat := (bkN n21 (AVal.list false m18 fun (i : Nat) => encWq (z0.v.words.getD i wd0)) (wdN (ItemD.mk n1 l11 n13)).v.head n19 1 deep (AVal.list false (n0 - 1).toNat fun (i : Nat) => encItem (its.getD (Int.toNat 1 + i) (ItemD.mk 0 [] 0))) rows ver left size).s.ver;
 let m23 : Nat := (sgN (AVal.list false m18 fun (i : Nat) => encWq (z0.v.words.getD i wd0)) (wdN (ItemD.mk n1 l11 n13)).v.head n19 (AVal.list false (n0 - 1).toNat fun (i : Nat) => encItem (its.getD (Int.toNat 1 + i) (ItemD.mk 0 [] 0))) rows ver left size).s.ver;
 let z1 := [AVal.ptr (Oid.hp 4) 0, AVal.int .i64 deep, AVal.undef, AVal.ptr (Oid.tmp 5) 0, AVal.own 5 0 nr.length nv false];
 let z2 := [AVal.ptr (Oid.hp 4) 0, AVal.int .i64 deep, AVal.ptr (Oid.tmp 5) 0, AVal.own 5 0 m14 m16 false];
 let z3 := [AVal.ptr (Oid.hp 4) 0, AVal.int .i64 deep, AVal.undef, AVal.ptr (Oid.tmp 5) 0, AVal.undef];
 let z6 := [AVal.ptr (Oid.hp 4) 0, AVal.int .i64 deep, AVal.ptr (Oid.tmp 5) 0, AVal.own 5 0 nr.length nv false];
 let z7 := AExit.panic (AVal.iface 41 (AVal.agg [AVal.int .i64 n19, AVal.int .i64 33]));
 let z8 := (wdN (ItemD.mk n1 l11 n13)).bad.getD (0, 0);
  bif decide (n0 > 0) then bif decide (0 < n0) then bif decide (1 ≤ n0) && decide (n0 ≤ n0) then bif n1 == 1 then bif c5 || c7 then bif c2 || c7 then bif c9 && isInt IntKind.i64 ((nr.getD m8 []).getD 0 AVal.undef) || c7 then bif bif c6 then intOf ((nr.getD m8 []).getD 0 AVal.undef) == 1 else false then bif c5 then bif c2 then bif c9 && isStr ((nr.getD m8 []).getD 1 AVal.undef) then bif decide (l10.length + m12 ≤ 4611686018427387904) then bif c5 then bif c2 then bif c9 then k AExit.normal (stL 109 [0, 1, 5, 6] z6 [5] [[AVal.list true 0 fun (x : Nat) => [], AVal.str [], AVal.int .i64 0]] [U0, U1, U2, Obj.arr 2 rows ver, Obj.var [AVal.list false (n0 - 1).toNat fun (i : Nat) => encItem (its.getD (Int.toNat 1 + i) (ItemD.mk 0 [] 0)), AVal.own 3 0 rows.length ver false, AVal.int .i64 left, AVal.int .i64 size], Obj.arr 9 (nr.set m8 ((nr.getD m8 []).set 1 (AVal.str (l10.append l11)))) nv] D) else none else none else none else none else none else none else none else bif !decide (size < 1024) then k (AExit.panic (AVal.iface 41 (AVal.agg [AVal.int .i64 n13, AVal.int .i64 3]))) (stL 109 [0, 1, 4, 5, 6] z3 [5] [[]] [U0, U1, U2, Obj.arr 2 rows ver, Obj.var [AVal.list false (n0 - 1).toNat fun (i : Nat) => encItem (its.getD (Int.toNat 1 + i) (ItemD.mk 0 [] 0)), AVal.own 3 0 rows.length ver false, AVal.int .i64 left, AVal.int .i64 size], Obj.arr 9 nr nv] D) else bif c15 then k AExit.normal (stL 109 [0, 1, 5, 6] z2 [5] [[AVal.list true 0 fun (x : Nat) => [], AVal.str [], AVal.int .i64 0]] [U0, U1, U2, Obj.arr 2 rows ver, Obj.var [AVal.list false (n0 - 1).toNat fun (i : Nat) => encItem (its.getD (Int.toNat 1 + i) (ItemD.mk 0 [] 0)), AVal.own 3 0 rows.length ver false, AVal.int .i64 left, AVal.int .i64 (IntKind.i64.wrap (size + 1))], Obj.arr 9 (nr.append [[AVal.int .i64 1, AVal.str l11, AVal.str [], AVal.list true 0 fun (x : Nat) => [], AVal.list true 0 fun (x : Nat) => [], AVal.list true 0 fun (x : Nat) => [], AVal.int .i64 n13, AVal.int .i64 0, AVal.int .i64 0]]) m16] D) else none else none else none else none else bif tst ((m12 ≤ 16384 ∧ 0 ≤ n13 ∧ n13 ≤ 16384) ∧ SubL [AVal.ptr (Oid.hp 4) 0, AVal.agg [AVal.int .i64 n1, AVal.str l11, AVal.int .i64 n13]] [AVal.ptr (Oid.hp 4) 0, AVal.agg (encItem (ItemD.mk n1 l11 n13))] ∧ [U0, U1, U2, Obj.arr 2 rows ver, Obj.var [AVal.list false (n0 - 1).toNat fun (i : Nat) => encItem (its.getD (Int.toNat 1 + i) (ItemD.mk 0 [] 0)), AVal.own 3 0 rows.length ver false, AVal.int .i64 left, AVal.int .i64 size], Obj.arr 9 nr nv] = [U0, U1, U2, Obj.arr 2 rows ver, Obj.var [AVal.list false (n0 - 1).toNat fun (i : Nat) => encItem (its.getD (Int.toNat 1 + i) (ItemD.mk 0 [] 0)), AVal.own 3 0 rows.length ver false, AVal.int .i64 left, AVal.int .i64 size], Obj.arr 9 nr nv]) then bif (wdN (ItemD.mk n1 l11 n13)).bad.isSome then k (AExit.panic (fltS z8.fst z8.snd)) (stL 109 [0, 1, 4, 5, 6] z1 [5] [[]] [U0, U1, U2, Obj.arr 2 rows ver, Obj.var [AVal.list false (n0 - 1).toNat fun (i : Nat) => encItem (its.getD (Int.toNat 1 + i) (ItemD.mk 0 [] 0)), AVal.own 3 0 rows.length ver false, AVal.int .i64 left, AVal.int .i64 size], Obj.arr 9 nr nv] D) else bif tst (3 ≤ 1099511627776 ∧ SubL [AVal.list true 3 fun (i : Nat) => z4.getD i [], AVal.str (wdN (ItemD.mk n1 l11 n13)).v.head] [ssL true (decL decS (AVal.list true 3 fun (i : Nat) => z4.getD i [])), AVal.str (wdN (ItemD.mk n1 l11 n13)).v.head] ∧ ([] : Heap) = []) then bif bif (wdN (ItemD.mk n1 l11 n13)).v.head == [101, 110, 100] then true else c17 then bif !bif decide (deep > 0) then bif c17 then true else (↑m18 : Int) == 1 else false then k z7 (stL 109 [0, 1, 4, 5, 6] z1 [5] [[]] [U0, U1, U2, Obj.arr 2 rows ver, Obj.var [AVal.list false (n0 - 1).toNat fun (i : Nat) => encItem (its.getD (Int.toNat 1 + i) (ItemD.mk 0 [] 0)), AVal.own 3 0 rows.length ver false, AVal.int .i64 left, AVal.int .i64 size], Obj.arr 9 nr nv] D) else k AExit.ret (stL 109 [0, 1, 4, 5, 6] [AVal.ptr (Oid.hp 4) 0, AVal.int .i64 deep, AVal.own 5 0 nr.length nv false, AVal.ptr (Oid.tmp 5) 0, AVal.own 5 0 nr.length nv false] [5] [[AVal.list false m18 fun (i : Nat) => encWq (z0.v.words.getD i wd0), AVal.str (wdN (ItemD.mk n1 l11 n13)).v.head, AVal.int .i64 n19]] [U0, U1, U2, Obj.arr 2 rows ver, Obj.var [AVal.list false (n0 - 1).toNat fun (i : Nat) => encItem (its.getD (Int.toNat 1 + i) (ItemD.mk 0 [] 0)), AVal.own 3 0 rows.length ver false, AVal.int .i64 left, AVal.int .i64 size], Obj.arr 9 nr nv] D) else bif (wdN (ItemD.mk n1 l11 n13)).v.head == [100, 101, 102, 105, 110, 101] then bif !deep == 0 then k z7 (stL 109 [0, 1, 4, 5, 6] z1 [5] [[]] [U0, U1, U2, Obj.arr 2 rows ver, Obj.var [AVal.list false (n0 - 1).toNat fun (i : Nat) => encItem (its.getD (Int.toNat 1 + i) (ItemD.mk 0 [] 0)), AVal.own 3 0 rows.length ver false, AVal.int .i64 left, AVal.int .i64 size], Obj.arr 9 nr nv] D) else bif tst (okD (SgA.mk (PsX.mk U0 U1 U2 (AVal.list false (n0 - 1).toNat fun (i : Nat) => encItem (its.getD (Int.toNat 1 + i) (ItemD.mk 0 [] 0))) rows ver left size) (List.drop 5 [U0, U1, U2, Obj.arr 2 rows ver, Obj.var [AVal.list false (n0 - 1).toNat fun (i : Nat) => encItem (its.getD (Int.toNat 1 + i) (ItemD.mk 0 [] 0)), AVal.own 3 0 rows.length ver false, AVal.int .i64 left, AVal.int .i64 size], Obj.arr 9 nr nv]) (AVal.list false m18 fun (i : Nat) => encWq (z0.v.words.getD i wd0)) (wdN (ItemD.mk n1 l11 n13)).v.head n19) ∧ SubL [AVal.ptr (Oid.hp 4) 0, AVal.agg [AVal.list false m18 fun (i : Nat) => encWq (z0.v.words.getD i wd0), AVal.str (wdN (ItemD.mk n1 l11 n13)).v.head, AVal.int .i64 n19]] [AVal.ptr (Oid.hp 4) 0, AVal.agg [AVal.list false m18 fun (i : Nat) => encWq (z0.v.words.getD i wd0), AVal.str (wdN (ItemD.mk n1 l11 n13)).v.head, AVal.int .i64 n19]] ∧ [U0, U1, U2, Obj.arr 2 rows ver, Obj.var [AVal.list false (n0 - 1).toNat fun (i : Nat) => encItem (its.getD (Int.toNat 1 + i) (ItemD.mk 0 [] 0)), AVal.own 3 0 rows.length ver false, AVal.int .i64 left, AVal.int .i64 size], Obj.arr 9 nr nv] = [U0, U1, U2, Obj.arr 2 rows ver, Obj.var [AVal.list false (n0 - 1).toNat fun (i : Nat) => encItem (its.getD (Int.toNat 1 + i) (ItemD.mk 0 [] 0)), AVal.own 3 0 rows.length ver false, AVal.int .i64 left, AVal.int .i64 size], Obj.arr 9 nr nv]) then bif (dfN (AVal.list false m18 fun (i : Nat) => encWq (z0.v.words.getD i wd0)) (wdN (ItemD.mk n1 l11 n13)).v.head n19 (AVal.list false (n0 - 1).toNat fun (i : Nat) => encItem (its.getD (Int.toNat 1 + i) (ItemD.mk 0 [] 0))) rows ver left size).bad.isSome then k (AExit.panic (fltS ((dfN (AVal.list false m18 fun (i : Nat) => encWq (z0.v.words.getD i wd0)) (wdN (ItemD.mk n1 l11 n13)).v.head n19 (AVal.list false (n0 - 1).toNat fun (i : Nat) => encItem (its.getD (Int.toNat 1 + i) (ItemD.mk 0 [] 0))) rows ver left size).bad.getD (0, 0)).fst ((dfN (AVal.list false m18 fun (i : Nat) => encWq (z0.v.words.getD i wd0)) (wdN (ItemD.mk n1 l11 n13)).v.head n19 (AVal.list false (n0 - 1).toNat fun (i : Nat) => encItem (its.getD (Int.toNat 1 + i) (ItemD.mk 0 [] 0))) rows ver left size).bad.getD (0, 0)).snd)) (stL 109 [0, 1, 4, 5, 6] z1 [5] [[]] (hpX (PsX.mk U0 U1 U2 (AVal.list false (n0 - 1).toNat fun (i : Nat) => encItem (its.getD (Int.toNat 1 + i) (ItemD.mk 0 [] 0))) rows ver left size) (List.drop 5 [U0, U1, U2, Obj.arr 2 rows ver, Obj.var [AVal.list false (n0 - 1).toNat fun (i : Nat) => encItem (its.getD (Int.toNat 1 + i) (ItemD.mk 0 [] 0)), AVal.own 3 0 rows.length ver false, AVal.int .i64 left, AVal.int .i64 size], Obj.arr 9 nr nv]) (dfN (AVal.list false m18 fun (i : Nat) => encWq (z0.v.words.getD i wd0)) (wdN (ItemD.mk n1 l11 n13)).v.head n19 (AVal.list false (n0 - 1).toNat fun (i : Nat) => encItem (its.getD (Int.toNat 1 + i) (ItemD.mk 0 [] 0))) rows ver left size).s) D) else k AExit.normal (stL 109 [0, 1, 5, 6] z6 [5] [[AVal.list true 0 fun (x : Nat) => [], AVal.str [], AVal.int .i64 0]] (hpX (PsX.mk U0 U1 U2 (AVal.list false (n0 - 1).toNat fun (i : Nat) => encItem (its.getD (Int.toNat 1 + i) (ItemD.mk 0 [] 0))) rows ver left size) (List.drop 5 [U0, U1, U2, Obj.arr 2 rows ver, Obj.var [AVal.list false (n0 - 1).toNat fun (i : Nat) => encItem (its.getD (Int.toNat 1 + i) (ItemD.mk 0 [] 0)), AVal.own 3 0 rows.length ver false, AVal.int .i64 left, AVal.int .i64 size], Obj.arr 9 nr nv]) (dfN (AVal.list false m18 fun (i : Nat) => encWq (z0.v.words.getD i wd0)) (wdN (ItemD.mk n1 l11 n13)).v.head n19 (AVal.list false (n0 - 1).toNat fun (i : Nat) => encItem (its.getD (Int.toNat 1 + i) (ItemD.mk 0 [] 0))) rows ver left size).s) D) else none else bif decide (n20 ≥ 0) then bif tst (okB (BkA.mk (PsX.mk U0 U1 U2 (AVal.list false (n0 - 1).toNat fun (i : Nat) => encItem (its.getD (Int.toNat 1 + i) (ItemD.mk 0 [] 0))) rows ver left size) (List.drop 5 [U0, U1, U2, Obj.arr 2 rows ver, Obj.var [AVal.list false (n0 - 1).toNat fun (i : Nat) => encItem (its.getD (Int.toNat 1 + i) (ItemD.mk 0 [] 0)), AVal.own 3 0 rows.length ver false, AVal.int .i64 left, AVal.int .i64 size], Obj.arr 9 nr nv]) n21 (AVal.list false m18 fun (i : Nat) => encWq (z0.v.words.getD i wd0)) (wdN (ItemD.mk n1 l11 n13)).v.head n19 1 deep) ∧ SubL [AVal.ptr (Oid.hp 4) 0, AVal.int .i64 n21, AVal.agg [AVal.list false m18 fun (i : Nat) => encWq (z0.v.words.getD i wd0), AVal.str (wdN (ItemD.mk n1 l11 n13)).v.head, AVal.int .i64 n19], AVal.int .i64 1, AVal.int .i64 deep] [AVal.ptr (Oid.hp 4) 0, AVal.int .i64 n21, AVal.agg [AVal.list false m18 fun (i : Nat) => encWq (z0.v.words.getD i wd0), AVal.str (wdN (ItemD.mk n1 l11 n13)).v.head, AVal.int .i64 n19], AVal.int .i64 1, AVal.int .i64 deep] ∧ [U0, U1, U2, Obj.arr 2 rows ver, Obj.var [AVal.list false (n0 - 1).toNat fun (i : Nat) => encItem (its.getD (Int.toNat 1 + i) (ItemD.mk 0 [] 0)), AVal.own 3 0 rows.length ver false, AVal.int .i64 left, AVal.int .i64 size], Obj.arr 9 nr nv] = [U0, U1, U2, Obj.arr 2 rows ver, Obj.var [AVal.list false (n0 - 1).toNat fun (i : Nat) => encItem (its.getD (Int.toNat 1 + i) (ItemD.mk 0 [] 0)), AVal.own 3 0 rows.length ver false, AVal.int .i64 left, AVal.int .i64 size], Obj.arr 9 nr nv]) then bif (bkN n21 (AVal.list false m18 fun (i : Nat) => encWq (z0.v.words.getD i wd0)) (wdN (ItemD.mk n1 l11 n13)).v.head n19 1 deep (AVal.list false (n0 - 1).toNat fun (i : Nat) => encItem (its.getD (Int.toNat 1 + i) (ItemD.mk 0 [] 0))) rows ver left size).bad.isSome then k (AExit.panic (fltS ((bkN n21 (AVal.list false m18 fun (i : Nat) => encWq (z0.v.words.getD i wd0)) (wdN (ItemD.mk n1 l11 n13)).v.head n19 1 deep (AVal.list false (n0 - 1).toNat fun (i : Nat) => encItem (its.getD (Int.toNat 1 + i) (ItemD.mk 0 [] 0))) rows ver left size).bad.getD (0, 0)).fst ((bkN n21 (AVal.list false m18 fun (i : Nat) => encWq (z0.v.words.getD i wd0)) (wdN (ItemD.mk n1 l11 n13)).v.head n19 1 deep (AVal.list false (n0 - 1).toNat fun (i : Nat) => encItem (its.getD (Int.toNat 1 + i) (ItemD.mk 0 [] 0))) rows ver left size).bad.getD (0, 0)).snd)) (stL 109 [0, 1, 4, 5, 6] z3 [5] [[]] (hpX (PsX.mk U0 U1 U2 (AVal.list false (n0 - 1).toNat fun (i : Nat) => encItem (its.getD (Int.toNat 1 + i) (ItemD.mk 0 [] 0))) rows ver left size) (List.drop 5 [U0, U1, U2, Obj.arr 2 rows ver, Obj.var [AVal.list false (n0 - 1).toNat fun (i : Nat) => encItem (its.getD (Int.toNat 1 + i) (ItemD.mk 0 [] 0)), AVal.own 3 0 rows.length ver false, AVal.int .i64 left, AVal.int .i64 size], Obj.arr 9 nr nv]) (bkN n21 (AVal.list false m18 fun (i : Nat) => encWq (z0.v.words.getD i wd0)) (wdN (ItemD.mk n1 l11 n13)).v.head n19 1 deep (AVal.list false (n0 - 1).toNat fun (i : Nat) => encItem (its.getD (Int.toNat 1 + i) (ItemD.mk 0 [] 0))) rows ver left size).s) D) else bif c15 then k AExit.normal (stL 109 [0, 1, 5, 6] z2 [5] [[AVal.list true 0 fun (x : Nat) => [], AVal.str [], AVal.int .i64 0]] [U0, U1, U2, Obj.arr 2 (List.map encDf (bkN n21 (AVal.list false m18 fun (i : Nat) => encWq (z0.v.words.getD i wd0)) (wdN (ItemD.mk n1 l11 n13)).v.head n19 1 deep (AVal.list false (n0 - 1).toNat fun (i : Nat) => encItem (its.getD (Int.toNat 1 + i) (ItemD.mk 0 [] 0))) rows ver left size).s.defs) m22, Obj.var [encIts (bkN n21 (AVal.list false m18 fun (i : Nat) => encWq (z0.v.words.getD i wd0)) (wdN (ItemD.mk n1 l11 n13)).v.head n19 1 deep (AVal.list false (n0 - 1).toNat fun (i : Nat) => encItem (its.getD (Int.toNat 1 + i) (ItemD.mk 0 [] 0))) rows ver left size).s.items, AVal.own 3 0 (List.map encDf (bkN n21 (AVal.list false m18 fun (i : Nat) => encWq (z0.v.words.getD i wd0)) (wdN (ItemD.mk n1 l11 n13)).v.head n19 1 deep (AVal.list false (n0 - 1).toNat fun (i : Nat) => encItem (its.getD (Int.toNat 1 + i) (ItemD.mk 0 [] 0))) rows ver left size).s.defs).length m22 false, AVal.int .i64 (bkN n21 (AVal.list false m18 fun (i : Nat) => encWq (z0.v.words.getD i wd0)) (wdN (ItemD.mk n1 l11 n13)).v.head n19 1 deep (AVal.list false (n0 - 1).toNat fun (i : Nat) => encItem (its.getD (Int.toNat 1 + i) (ItemD.mk 0 [] 0))) rows ver left size).s.left, AVal.int .i64 (bkN n21 (AVal.list false m18 fun (i : Nat) => encWq (z0.v.words.getD i wd0)) (wdN (ItemD.mk n1 l11 n13)).v.head n19 1 deep (AVal.list false (n0 - 1).toNat fun (i : Nat) => encItem (its.getD (Int.toNat 1 + i) (ItemD.mk 0 [] 0))) rows ver left size).s.size], Obj.arr 9 (nr.append [[AVal.int .i64 (bkN n21 (AVal.list false m18 fun (i : Nat) => encWq (z0.v.words.getD i wd0)) (wdN (ItemD.mk n1 l11 n13)).v.head n19 1 deep (AVal.list false (n0 - 1).toNat fun (i : Nat) => encItem (its.getD (Int.toNat 1 + i) (ItemD.mk 0 [] 0))) rows ver left size).v.kind, AVal.str (bkN n21 (AVal.list false m18 fun (i : Nat) => encWq (z0.v.words.getD i wd0)) (wdN (ItemD.mk n1 l11 n13)).v.head n19 1 deep (AVal.list false (n0 - 1).toNat fun (i : Nat) => encItem (its.getD (Int.toNat 1 + i) (ItemD.mk 0 [] 0))) rows ver left size).v.text, AVal.str (bkN n21 (AVal.list false m18 fun (i : Nat) => encWq (z0.v.words.getD i wd0)) (wdN (ItemD.mk n1 l11 n13)).v.head n19 1 deep (AVal.list false (n0 - 1).toNat fun (i : Nat) => encItem (its.getD (Int.toNat 1 + i) (ItemD.mk 0 [] 0))) rows ver left size).v.name, AVal.list (bkN n21 (AVal.list false m18 fun (i : Nat) => encWq (z0.v.words.getD i wd0)) (wdN (ItemD.mk n1 l11 n13)).v.head n19 1 deep (AVal.list false (n0 - 1).toNat fun (i : Nat) => encItem (its.getD (Int.toNat 1 + i) (ItemD.mk 0 [] 0))) rows ver left size).v.pf (bkN n21 (AVal.list false m18 fun (i : Nat) => encWq (z0.v.words.getD i wd0)) (wdN (ItemD.mk n1 l11 n13)).v.head n19 1 deep (AVal.list false (n0 - 1).toNat fun (i : Nat) => encItem (its.getD (Int.toNat 1 + i) (ItemD.mk 0 [] 0))) rows ver left size).v.pn (bkN n21 (AVal.list false m18 fun (i : Nat) => encWq (z0.v.words.getD i wd0)) (wdN (ItemD.mk n1 l11 n13)).v.head n19 1 deep (AVal.list false (n0 - 1).toNat fun (i : Nat) => encItem (its.getD (Int.toNat 1 + i) (ItemD.mk 0 [] 0))) rows ver left size).v.pr, AVal.list (bkN n21 (AVal.list false m18 fun (i : Nat) => encWq (z0.v.words.getD i wd0)) (wdN (ItemD.mk n1 l11 n13)).v.head n19 1 deep (AVal.list false (n0 - 1).toNat fun (i : Nat) => encItem (its.getD (Int.toNat 1 + i) (ItemD.mk 0 [] 0))) rows ver left size).v.bf (bkN n21 (AVal.list false m18 fun (i : Nat) => encWq (z0.v.words.getD i wd0)) (wdN (ItemD.mk n1 l11 n13)).v.head n19 1 deep (AVal.list false (n0 - 1).toNat fun (i : Nat) => encItem (its.getD (Int.toNat 1 + i) (ItemD.mk 0 [] 0))) rows ver left size).v.bn (bkN n21 (AVal.list false m18 fun (i : Nat) => encWq (z0.v.words.getD i wd0)) (wdN (ItemD.mk n1 l11 n13)).v.head n19 1 deep (AVal.list false (n0 - 1).toNat fun (i : Nat) => encItem (its.getD (Int.toNat 1 + i) (ItemD.mk 0 [] 0))) rows ver left size).v.br, AVal.list (bkN n21 (AVal.list false m18 fun (i : Nat) => encWq (z0.v.words.getD i wd0)) (wdN (ItemD.mk n1 l11 n13)).v.head n19 1 deep (AVal.list false (n0 - 1).toNat fun (i : Nat) => encItem (its.getD (Int.toNat 1 + i) (ItemD.mk 0 [] 0))) rows ver left size).v.ef (bkN n21 (AVal.list false m18 fun (i : Nat) => encWq (z0.v.words.getD i wd0)) (wdN (ItemD.mk n1 l11 n13)).v.head n19 1 deep (AVal.list false (n0 - 1).toNat fun (i : Nat) => encItem (its.getD (Int.toNat 1 + i) (ItemD.mk 0 [] 0))) rows ver left size).v.en (bkN n21 (AVal.list false m18 fun (i : Nat) => encWq (z0.v.words.getD i wd0)) (wdN (ItemD.mk n1 l11 n13)).v.head n19 1 deep (AVal.list false (n0 - 1).toNat fun (i : Nat) => encItem (its.getD (Int.toNat 1 + i) (ItemD.mk 0 [] 0))) rows ver left size).v.er, AVal.int .i64 (bkN n21 (AVal.list false m18 fun (i : Nat) => encWq (z0.v.words.getD i wd0)) (wdN (ItemD.mk n1 l11 n13)).v.head n19 1 deep (AVal.list false (n0 - 1).toNat fun (i : Nat) => encItem (its.getD (Int.toNat 1 + i) (ItemD.mk 0 [] 0))) rows ver left size).v.at_, AVal.int .i64 (bkN n21 (AVal.list false m18 fun (i : Nat) => encWq (z0.v.words.getD i wd0)) (wdN (ItemD.mk n1 l11 n13)).v.head n19 1 deep (AVal.list false (n0 - 1).toNat fun (i : Nat) => encItem (its.getD (Int.toNat 1 + i) (ItemD.mk 0 [] 0))) rows ver left size).v.esc, AVal.int .i64 (bkN n21 (AVal.list false m18 fun (i : Nat) => encWq (z0.v.words.getD i wd0)) (wdN (ItemD.mk n1 l11 n13)).v.head n19 1 deep (AVal.list false (n0 - 1).toNat fun (i : Nat) => encItem (its.getD (Int.toNat 1 + i) (ItemD.mk 0 [] 0))) rows ver left size).v.unit]]) m16] D) else none else none else bif tst (okS (SgA.mk (PsX.mk U0 U1 U2 (AVal.list false (n0 - 1).toNat fun (i : Nat) => encItem (its.getD (Int.toNat 1 + i) (ItemD.mk 0 [] 0))) rows ver left size) (List.drop 5 [U0, U1, U2, Obj.arr 2 rows ver, Obj.var [AVal.list false (n0 - 1).toNat fun (i : Nat) => encItem (its.getD (Int.toNat 1 + i) (ItemD.mk 0 [] 0)), AVal.own 3 0 rows.length ver false, AVal.int .i64 left, AVal.int .i64 size], Obj.arr 9 nr nv]) (AVal.list false m18 fun (i : Nat) => encWq (z0.v.words.getD i wd0)) (wdN (ItemD.mk n1 l11 n13)).v.head n19) ∧ SubL [AVal.ptr (Oid.hp 4) 0, AVal.agg [AVal.list false m18 fun (i : Nat) => encWq (z0.v.words.getD i wd0), AVal.str (wdN (ItemD.mk n1 l11 n13)).v.head, AVal.int .i64 n19]] [AVal.ptr (Oid.hp 4) 0, AVal.agg [AVal.list false m18 fun (i : Nat) => encWq (z0.v.words.getD i wd0), AVal.str (wdN (ItemD.mk n1 l11 n13)).v.head, AVal.int .i64 n19]] ∧ [U0, U1, U2, Obj.arr 2 rows ver, Obj.var [AVal.list false (n0 - 1).toNat fun (i : Nat) => encItem (its.getD (Int.toNat 1 + i) (ItemD.mk 0 [] 0)), AVal.own 3 0 rows.length ver false, AVal.int .i64 left, AVal.int .i64 size], Obj.arr 9 nr nv] = [U0, U1, U2, Obj.arr 2 rows ver, Obj.var [AVal.list false (n0 - 1).toNat fun (i : Nat) => encItem (its.getD (Int.toNat 1 + i) (ItemD.mk 0 [] 0)), AVal.own 3 0 rows.length ver false, AVal.int .i64 left, AVal.int .i64 size], Obj.arr 9 nr nv]) then bif (sgN (AVal.list false m18 fun (i : Nat) => encWq (z0.v.words.getD i wd0)) (wdN (ItemD.mk n1 l11 n13)).v.head n19 (AVal.list false (n0 - 1).toNat fun (i : Nat) => encItem (its.getD (Int.toNat 1 + i) (ItemD.mk 0 [] 0))) rows ver left size).bad.isSome then k (AExit.panic (fltS ((sgN (AVal.list false m18 fun (i : Nat) => encWq (z0.v.words.getD i wd0)) (wdN (ItemD.mk n1 l11 n13)).v.head n19 (AVal.list false (n0 - 1).toNat fun (i : Nat) => encItem (its.getD (Int.toNat 1 + i) (ItemD.mk 0 [] 0))) rows ver left size).bad.getD (0, 0)).fst ((sgN (AVal.list false m18 fun (i : Nat) => encWq (z0.v.words.getD i wd0)) (wdN (ItemD.mk n1 l11 n13)).v.head n19 (AVal.list false (n0 - 1).toNat fun (i : Nat) => encItem (its.getD (Int.toNat 1 + i) (ItemD.mk 0 [] 0))) rows ver left size).bad.getD (0, 0)).snd)) (stL 109 [0, 1, 4, 5, 6] z3 [5] [[]] (hpX (PsX.mk U0 U1 U2 (AVal.list false (n0 - 1).toNat fun (i : Nat) => encItem (its.getD (Int.toNat 1 + i) (ItemD.mk 0 [] 0))) rows ver left size) (List.drop 5 [U0, U1, U2, Obj.arr 2 rows ver, Obj.var [AVal.list false (n0 - 1).toNat fun (i : Nat) => encItem (its.getD (Int.toNat 1 + i) (ItemD.mk 0 [] 0)), AVal.own 3 0 rows.length ver false, AVal.int .i64 left, AVal.int .i64 size], Obj.arr 9 nr nv]) (sgN (AVal.list false m18 fun (i : Nat) => encWq (z0.v.words.getD i wd0)) (wdN (ItemD.mk n1 l11 n13)).v.head n19 (AVal.list false (n0 - 1).toNat fun (i : Nat) => encItem (its.getD (Int.toNat 1 + i) (ItemD.mk 0 [] 0))) rows ver left size).s) D) else bif c15 then k AExit.normal (stL 109 [0, 1, 5, 6] z2 [5] [[AVal.list true 0 fun (x : Nat) => [], AVal.str [], AVal.int .i64 0]] [U0, U1, U2, Obj.arr 2 (List.map encDf (sgN (AVal.list false m18 fun (i : Nat) => encWq (z0.v.words.getD i wd0)) (wdN (ItemD.mk n1 l11 n13)).v.head n19 (AVal.list false (n0 - 1).toNat fun (i : Nat) => encItem (its.getD (Int.toNat 1 + i) (ItemD.mk 0 [] 0))) rows ver left size).s.defs) m23, Obj.var [encIts (sgN (AVal.list false m18 fun (i : Nat) => encWq (z0.v.words.getD i wd0)) (wdN (ItemD.mk n1 l11 n13)).v.head n19 (AVal.list false (n0 - 1).toNat fun (i : Nat) => encItem (its.getD (Int.toNat 1 + i) (ItemD.mk 0 [] 0))) rows ver left size).s.items, AVal.own 3 0 (List.map encDf (sgN (AVal.list false m18 fun (i : Nat) => encWq (z0.v.words.getD i wd0)) (wdN (ItemD.mk n1 l11 n13)).v.head n19 (AVal.list false (n0 - 1).toNat fun (i : Nat) => encItem (its.getD (Int.toNat 1 + i) (ItemD.mk 0 [] 0))) rows ver left size).s.defs).length m23 false, AVal.int .i64 (sgN (AVal.list false m18 fun (i : Nat) => encWq (z0.v.words.getD i wd0)) (wdN (ItemD.mk n1 l11 n13)).v.head n19 (AVal.list false (n0 - 1).toNat fun (i : Nat) => encItem (its.getD (Int.toNat 1 + i) (ItemD.mk 0 [] 0))) rows ver left size).s.left, AVal.int .i64 (sgN (AVal.list false m18 fun (i : Nat) => encWq (z0.v.words.getD i wd0)) (wdN (ItemD.mk n1 l11 n13)).v.head n19 (AVal.list false (n0 - 1).toNat fun (i : Nat) => encItem (its.getD (Int.toNat 1 + i) (ItemD.mk 0 [] 0))) rows ver left size).s.size], Obj.arr 9 (nr.append [[AVal.int .i64 (sgN (AVal.list false m18 fun (i : Nat) => encWq (z0.v.words.getD i wd0)) (wdN (ItemD.mk n1 l11 n13)).v.head n19 (AVal.list false (n0 - 1).toNat fun (i : Nat) => encItem (its.getD (Int.toNat 1 + i) (ItemD.mk 0 [] 0))) rows ver left size).v.kind, AVal.str (sgN (AVal.list false m18 fun (i : Nat) => encWq (z0.v.words.getD i wd0)) (wdN (ItemD.mk n1 l11 n13)).v.head n19 (AVal.list false (n0 - 1).toNat fun (i : Nat) => encItem (its.getD (Int.toNat 1 + i) (ItemD.mk 0 [] 0))) rows ver left size).v.text, AVal.str (sgN (AVal.list false m18 fun (i : Nat) => encWq (z0.v.words.getD i wd0)) (wdN (ItemD.mk n1 l11 n13)).v.head n19 (AVal.list false (n0 - 1).toNat fun (i : Nat) => encItem (its.getD (Int.toNat 1 + i) (ItemD.mk 0 [] 0))) rows ver left size).v.name, AVal.list (sgN (AVal.list false m18 fun (i : Nat) => encWq (z0.v.words.getD i wd0)) (wdN (ItemD.mk n1 l11 n13)).v.head n19 (AVal.list false (n0 - 1).toNat fun (i : Nat) => encItem (its.getD (Int.toNat 1 + i) (ItemD.mk 0 [] 0))) rows ver left size).v.pf (sgN (AVal.list false m18 fun (i : Nat) => encWq (z0.v.words.getD i wd0)) (wdN (ItemD.mk n1 l11 n13)).v.head n19 (AVal.list false (n0 - 1).toNat fun (i : Nat) => encItem (its.getD (Int.toNat 1 + i) (ItemD.mk 0 [] 0))) rows ver left size).v.pn (sgN (AVal.list false m18 fun (i : Nat) => encWq (z0.v.words.getD i wd0)) (wdN (ItemD.mk n1 l11 n13)).v.head n19 (AVal.list false (n0 - 1).toNat fun (i : Nat) => encItem (its.getD (Int.toNat 1 + i) (ItemD.mk 0 [] 0))) rows ver left size).v.pr, AVal.list (sgN (AVal.list false m18 fun (i : Nat) => encWq (z0.v.words.getD i wd0)) (wdN (ItemD.mk n1 l11 n13)).v.head n19 (AVal.list false (n0 - 1).toNat fun (i : Nat) => encItem (its.getD (Int.toNat 1 + i) (ItemD.mk 0 [] 0))) rows ver left size).v.bf (sgN (AVal.list false m18 fun (i : Nat) => encWq (z0.v.words.getD i wd0)) (wdN (ItemD.mk n1 l11 n13)).v.head n19 (AVal.list false (n0 - 1).toNat fun (i : Nat) => encItem (its.getD (Int.toNat 1 + i) (ItemD.mk 0 [] 0))) rows ver left size).v.bn (sgN (AVal.list false m18 fun (i : Nat) => encWq (z0.v.words.getD i wd0)) (wdN (ItemD.mk n1 l11 n13)).v.head n19 (AVal.list false (n0 - 1).toNat fun (i : Nat) => encItem (its.getD (Int.toNat 1 + i) (ItemD.mk 0 [] 0))) rows ver left size).v.br, AVal.list (sgN (AVal.list false m18 fun (i : Nat) => encWq (z0.v.words.getD i wd0)) (wdN (ItemD.mk n1 l11 n13)).v.head n19 (AVal.list false (n0 - 1).toNat fun (i : Nat) => encItem (its.getD (Int.toNat 1 + i) (ItemD.mk 0 [] 0))) rows ver left size).v.ef (sgN (AVal.list false m18 fun (i : Nat) => encWq (z0.v.words.getD i wd0)) (wdN (ItemD.mk n1 l11 n13)).v.head n19 (AVal.list false (n0 - 1).toNat fun (i : Nat) => encItem (its.getD (Int.toNat 1 + i) (ItemD.mk 0 [] 0))) rows ver left size).v.en (sgN (AVal.list false m18 fun (i : Nat) => encWq (z0.v.words.getD i wd0)) (wdN (ItemD.mk n1 l11 n13)).v.head n19 (AVal.list false (n0 - 1).toNat fun (i : Nat) => encItem (its.getD (Int.toNat 1 + i) (ItemD.mk 0 [] 0))) rows ver left size).v.er, AVal.int .i64 (sgN (AVal.list false m18 fun (i : Nat) => encWq (z0.v.words.getD i wd0)) (wdN (ItemD.mk n1 l11 n13)).v.head n19 (AVal.list false (n0 - 1).toNat fun (i : Nat) => encItem (its.getD (Int.toNat 1 + i) (ItemD.mk 0 [] 0))) rows ver left size).v.at_, AVal.int .i64 (sgN (AVal.list false m18 fun (i : Nat) => encWq (z0.v.words.getD i wd0)) (wdN (ItemD.mk n1 l11 n13)).v.head n19 (AVal.list false (n0 - 1).toNat fun (i : Nat) => encItem (its.getD (Int.toNat 1 + i) (ItemD.mk 0 [] 0))) rows ver left size).v.esc, AVal.int .i64 (sgN (AVal.list false m18 fun (i : Nat) => encWq (z0.v.words.getD i wd0)) (wdN (ItemD.mk n1 l11 n13)).v.head n19 (AVal.list false (n0 - 1).toNat fun (i : Nat) => encItem (its.getD (Int.toNat 1 + i) (ItemD.mk 0 [] 0))) rows ver left size).v.unit]]) m16] D) else none else none else none else none else none else none else k (AExit.exit 0) (stL 109 [0, 1, 4, 5, 6] z1 [5] [[AVal.list true 0 fun (x : Nat) => [], AVal.str [], AVal.int .i64 0]] [U0, U1, U2, Obj.arr 2 rows ver, Obj.var [encIts its, AVal.own 3 0 rows.length ver false, AVal.int .i64 left, AVal.int .i64 size], Obj.arr 9 nr nv] D)) := by kernel_rfl
noncomputable def layNl (okL : NdA → Prop) (okD okS : SgA → Prop) (okB : BkA → Prop) : Lay := (layN0 okD okS okB).addL 13 (ndFH okL)
theorem nd_fun (okL : NdA → Prop) (okD okS : SgA → Prop) (okB : BkA → Prop) (U0 U1 U2 : Obj) (it : AVal) (rows : List (List AVal)) (ver : Nat) (left size deep : Int) (k : Out → Ans) : iFun Tryz.prog ((layNl okL okD okS okB).hd Tryz.prog) (layNl okL okD okS okB).fhs 0 13 [.ptr (.hp 4) 0, .int .i64 deep] (PsX.mk U0 U1 U2 it rows ver left size).heap k = (
 let z0 := ndL deep it rows ver left size;
 let c0 : Bool := z0.v.fst.isEmpty;
 let m1 : Nat := z0.v.fst.length - 1;
 let c2 : Bool := !deep == 0;
 let z1 := PsX.mk U0 U1 U2 it rows ver left size;
 let z2 := z0.v.snd.getD (PcD.mk [] [] 0);
 let z3 := hpX z1 [Obj.arr 9 (List.map encNd z0.v.fst) m1] z0.s;
 let z4 := AVal.iface 41 (AVal.agg [AVal.int .i64 z0.s.left, AVal.int .i64 8]);
 let z5 := fltS (z0.bad.getD (0, 0)).fst (z0.bad.getD (0, 0)).snd;
  bif tst (okL (NdA.mk z1 [] deep) ∧ SubTL [AVal.ptr (Oid.hp 4) 0, AVal.int .i64 deep, AVal.ptr (Oid.tmp 5) 0, AVal.list true 0 fun (x : Nat) => []] [AVal.ptr (Oid.hp 4) 0, AVal.int .i64 deep, AVal.ptr (Oid.tmp 5) 0, AVal.list true 0 fun (x : Nat) => []] ∧ [[AVal.list true 0 fun (x : Nat) => [], AVal.str [], AVal.int .i64 0]] = [pcZ] ∧ z1.heap = z1.heap) then bif z0.bad.isSome then bif c0 then k (Out.panic z5 (hpX z1 [] z0.s)) else k (Out.panic z5 z3) else bif z0.v.snd.isSome then bif c0 then k (Out.ret (AVal.tuple [AVal.list true 0 fun (x : Nat) => [], AVal.agg [AVal.list false z2.words.length fun (i : Nat) => encWq (z2.words.getD i wd0), AVal.str z2.head, AVal.int .i64 z2.at_]]) (hpX z1 [] z0.s)) else k (Out.ret (AVal.tuple [AVal.own 5 0 (List.map encNd z0.v.fst).length m1 false, AVal.agg [AVal.list false z2.words.length fun (i : Nat) => encWq (z2.words.getD i wd0), AVal.str z2.head, AVal.int .i64 z2.at_]]) z3) else bif c0 then bif c2 then k (Out.panic z4 (hpX z1 [] z0.s)) else k (Out.ret (AVal.tuple [AVal.list true 0 fun (x : Nat) => [], AVal.agg [AVal.list true 0 fun (x : Nat) => [], AVal.str [], AVal.int .i64 0]]) (hpX z1 [] z0.s)) else bif c2 then k (Out.panic z4 z3) else k (Out.ret (AVal.tuple [AVal.own 5 0 (List.map encNd z0.v.fst).length m1 false, AVal.agg [AVal.list true 0 fun (x : Nat) => [], AVal.str [], AVal.int .i64 0]]) z3) else none) := by kernel_rfl
end Go.Mu
namespace Go.Mu
open Go Go.Proofs
abbrev hp6 (a b c : Obj) (rows : List (List AVal)) (ver : Nat) (e : Obj) (s : Nm) : Heap := [a, b, c, .arr 2 rows ver, e, .var [.str s]]
abbrev dfCl : AVal := .func 44 [.ptr (.hp 5) 0]
abbrev dfOw (rows : List (List AVal)) (ver : Nat) : AVal := .own 3 0 rows.length ver false
theorem d1_fun (r : AVal) (b : AVal) (a0 a1 a2 : Obj) (rows : List (List AVal)) (ver : Nat) (e : Obj) (s : Nm) (k : Out → Ans) : iFun Tryz.prog (Lay.nil.hd Tryz.prog) Lay.nil.fhs 0 44 [.agg [r, b], .ptr (.hp 5) 0] (hp6 a0 a1 a2 rows ver e s) k = (
 bif isStr r then k (Out.ret (AVal.bool (strOf r == s)) (hp6 a0 a1 a2 rows ver e s)) else none) := by kernel_rfl
noncomputable def d1Told : FSp := fun xs H k => match xs, H with
 | [.agg [r, b], .ptr (.hp 5) 0], [a0, a1, a2, .arr 2 rows ver, e, .var [.str s]] => bif isStr r then k (Out.ret (AVal.bool (strOf r == s)) (hp6 a0 a1 a2 rows ver e s)) else none
 | _, _ => none
theorem d1Told_ok (xs : List AVal) (H : Heap) (k : Out → Ans) (out : Out) (ho : d1Told xs H k = some out) : ∃ o, CallOK Tryz.prog 44 xs H o ∧ k o = some out := by
 unfold d1Told at ho
 split at ho
 · rename_i r b a0 a1 a2 rows ver e s
   cases hr : isStr r with
   | false => rw [hr] at ho; simp at ho
   | true =>
    rw [hr] at ho
    exact ⟨_, Lay.nil_ok.call (fun k => (d1_fun r b a0 a1 a2 rows ver e s k).trans (by rw [hr]; rfl)), ho⟩
 · simp at ho
noncomputable def layIx1 : Lay := Lay.nil.addF 44 d1Told
theorem layIx1_ok : layIx1.OK Tryz.prog := Lay.nil_ok.addF d1Told_ok
theorem ix_step (rows : List (List AVal)) (ver : Nat) (a b c e : Obj) (s : Nm) (i : Int) (D : Dfs) (k : Kont) : lturn Tryz.prog layIx1 { thaw := [44] } 63 2 [0,1,7,8] [] [4] [] (stL 19 [0,1,7,8] [dfOw rows ver, dfCl, .int .i64 rows.length, .int .i64 i] [] [] (hp6 a b c rows ver e s) D) k = (
 let n0 : Int := (↑rows.length : Int);
 let c1 : Bool := decide (i < n0);
 let c2 : Bool := ver == ver;
 let m3 : Nat := 0 + i.toNat;
  bif c1 then bif c2 && decide (0 ≤ i) && c1 then bif c2 && decide (m3 < rows.length) && true then bif isStr ((rows.getD m3 []).getD 0 AVal.undef) then bif strOf ((rows.getD m3 []).getD 0 AVal.undef) == s then k AExit.ret (stL 19 [4] [AVal.int .i64 i] [] [] (hp6 a b c rows ver e s) D) else k AExit.normal (stL 19 [0, 1, 7, 8] [AVal.own 3 0 rows.length ver false, AVal.func 44 [AVal.ptr (Oid.hp 5) 0], AVal.int .i64 n0, AVal.int .i64 (IntKind.i64.wrap (i + 1))] [] [] (hp6 a b c rows ver e s) D) else none else none else none else k (AExit.exit 0) (stL 19 [4] [AVal.undef] [] [] (hp6 a b c rows ver e s) D)) := by kernel_rfl
structure DxA where
 a : Obj
 b : Obj
 c : Obj
 rows : List (List AVal)
 ver : Nat
 e : Obj
 s : Nm
def hd6 (H : Heap) : DxA := ⟨H.getD 0 (.var []), H.getD 1 (.var []), H.getD 2 (.var []), rowsO (H.getD 3 (.var [])), verO (H.getD 3 (.var [])), H.getD 4 (.var []), strOf ((cellsO (H.getD 5 (.var []))).getD 0 .undef)⟩
def DxA.heap (x : DxA) : Heap := hp6 x.a x.b x.c x.rows x.ver x.e x.s
def nmHas (s : Nm) (r : List AVal) : Bool := strOf (r.getD 0 .undef) == s
def dxOk (x : DxA) : Prop := ∃ ds : List DfD, x.rows = ds.map encDf ∧ ds.length ≤ 1099511627776
def dxAny (x : DxA) : Bool := x.rows.any (nmHas x.s)
def dxIdx (x : DxA) : Nat := x.rows.findIdx (nmHas x.s)
noncomputable def dxSp : LSp := mkL (fun vs _ H => hd6 H) dxOk (fun x => [dfOw x.rows x.ver, dfCl, .int .i64 x.rows.length, .int .i64 0]) (fun _ => []) (fun x => x.heap)
 (fun x k => cond (dxAny x) (k .ret [.int .i64 (dxIdx x : Nat)] [] x.heap) (k (.exit 0) [.undef] [] x.heap))
noncomputable def dxFH : FH := { FH.of [(2, loopSpec 19 [0,1,7,8] [] [4] [] dxSp)] with thaw := [44] }
noncomputable abbrev dxTurn := lturn Tryz.prog layIx1 dxFH 63 2 [0,1,7,8] [] [4] []
theorem dxSp_ok : SpOK dxTurn 19 [0,1,7,8] [] [4] [] dxSp := mkL_ok fun x h => by
 obtain ⟨a, b, c, rows, ver, e, s⟩ := x
 obtain ⟨ds, hr, hl⟩ := h
 replace hr : rows = ds.map encDf := hr
 have hlen : rows.length ≤ 1099511627776 := by rw [hr, List.length_map]; exact hl
 have hstr : ∀ i, i < rows.length → isStr ((rows.getD i []).getD 0 AVal.undef) = true := fun i hi => by
  have hm : rows.getD i [] ∈ rows := by
   have e : rows.getD i [] = rows[i] := by simp only [List.getD_eq_getElem?_getD, List.getElem?_eq_getElem hi, Option.getD_some]
   rw [e]; exact List.getElem_mem hi
  generalize rows.getD i [] = r at hm ⊢
  rw [hr] at hm
  obtain ⟨d, _, rfl⟩ := List.mem_map.1 hm
  rfl
 have hstep : ∀ (i : Nat) D (k : Kont), i < rows.length → dxTurn (stL 19 [0,1,7,8] [dfOw rows ver, dfCl, .int .i64 rows.length, .int .i64 (i : Nat)] [] [] (hp6 a b c rows ver e s) D) k =
  cond (nmHas s (rows.getD i [])) (k .ret (stL 19 [4] [.int .i64 (i : Nat)] [] [] (hp6 a b c rows ver e s) D)) (k .normal (stL 19 [0,1,7,8] [dfOw rows ver, dfCl, .int .i64 rows.length, .int .i64 ((i + 1 : Nat) : Int)] [] [] (hp6 a b c rows ver e s) D)) := fun i D k hi => by
  refine (ix_step rows ver a b c e s i D k).trans ?_
  simp only [dT (show (i : Int) < (rows.length : Int) by omega), dT (show (0 : Int) ≤ (i : Int) by omega), Int.toNat_natCast, Nat.zero_add, dT hi, hstr i hi, beq_self_eq_true, Bool.and_self, cond_true, wrap_add1 (show i < 4611686018427387904 by omega)]
  rfl
 have hend : ∀ D (k : Kont), dxTurn (stL 19 [0,1,7,8] [dfOw rows ver, dfCl, .int .i64 rows.length, .int .i64 (rows.length : Nat)] [] [] (hp6 a b c rows ver e s) D) k = k (.exit 0) (stL 19 [4] [.undef] [] [] (hp6 a b c rows ver e s) D) := fun D k => by
  refine (ix_step rows ver a b c e s rows.length D k).trans ?_
  simp only [dF (show ¬ (rows.length : Int) < (rows.length : Int) by omega), cond_false]
 have hrun : ∀ D k, rounds dxTurn (rows.length + 1) (stL 19 [0,1,7,8] [dfOw rows ver, dfCl, .int .i64 rows.length, .int .i64 0] [] [] (hp6 a b c rows ver e s) D) k =
  cond (rows.any (nmHas s)) (k .ret (stL 19 [4] [.int .i64 (rows.findIdx (nmHas s) : Nat)] [] [] (hp6 a b c rows ver e s) D)) (k (.exit 0) (stL 19 [4] [.undef] [] [] (hp6 a b c rows ver e s) D)) := by
  intro D k
  have := search_find (turn := dxTurn) (S := fun i => stL 19 [0,1,7,8] [dfOw rows ver, dfCl, .int .i64 rows.length, .int .i64 (i : Nat)] [] [] (hp6 a b c rows ver e s) D) (hit := fun i => nmHas s (rows.getD i [])) (n := rows.length) (e0 := .exit 0) (e1 := .ret)
   (R0 := stL 19 [4] [.undef] [] [] (hp6 a b c rows ver e s) D) (R1 := fun i => stL 19 [4] [.int .i64 (i : Nat)] [] [] (hp6 a b c rows ver e s) D) (fun i k hi => hstep i D k hi) (fun k => hend D k) (by simp) (by simp) k
  rw [find_getD] at this
  refine Eq.trans this ?_
  cases rows.any (nmHas s) <;> rfl
 show ∃ e' vs bs H, (∀ k : AExit → List AVal → List (List AVal) → Heap → Ans, cond (rows.any (nmHas s)) (k .ret [.int .i64 (rows.findIdx (nmHas s) : Nat)] [] (hp6 a b c rows ver e s)) (k (.exit 0) [.undef] [] (hp6 a b c rows ver e s)) = k e' vs bs H) ∧ _
 cases ha : rows.any (nmHas s) with
 | true => exact ⟨_, _, _, _, fun k => rfl, ⟨_, fun D k => (hrun D k).trans (by rw [ha]; rfl)⟩⟩
 | false => exact ⟨_, _, _, _, fun k => rfl, ⟨_, fun D k => (hrun D k).trans (by rw [ha]; rfl)⟩⟩
noncomputable def layIx2 : Lay := layIx1.addL 63 dxFH
theorem layIx2_ok : layIx2.OK Tryz.prog := layIx1_ok.loop1 (id := 2) (by kernel_rfl) (by kernel_rfl) (by kernel_rfl) dxSp_ok
noncomputable def layDf (okN : NdA → Prop) : Lay := ((layIx2.addF 46 oNameTold).addF 13 (ndTold okN)).addL 24 { heap := [4], hoist := true, hoist2 := true }
theorem df_fun (okN : NdA → Prop) (U0 U1 U2 : Obj) (it : AVal) (rows : List (List AVal)) (ver : Nat) (left size : Int) (w : PcD) (k : Out → Ans) : iFun Tryz.prog ((layDf okN).hd Tryz.prog) (layDf okN).fhs 0 24 [.ptr (.hp 4) 0, .agg (encPc w)] (PsX.mk U0 U1 U2 it rows ver left size).heap k = (
 let n0 : Int := (↑w.words.length : Int);
 let c1 : Bool := decide (1 < n0);
 let c2 : Bool := decide (n0 > 1);
 let l3 : Oc := (w.words.getD 1 wd0).text;
 let n4 : Int := (↑rows.length : Int);
 let m5 : Nat := rows.length + 1;
 let m6 : Nat := ver + 1;
 let m7 : Nat := (ndN 1 it (rows.append [[AVal.str l3, AVal.list true 0 fun (x : Nat) => []]]) m6 left size).s.ver;
 let c8 : Bool := m7 == m7;
 let m9 : Nat := (List.map encDf (ndN 1 it (rows.append [[AVal.str l3, AVal.list true 0 fun (x : Nat) => []]]) m6 left size).s.defs).length;
 let m10 : Nat := 0 + n4.toNat;
 let z0 := [it, AVal.own 3 0 rows.length ver false, AVal.int .i64 left, AVal.int .i64 size];
 let z1 := [it, AVal.own 3 0 m5 m6 false, AVal.int .i64 left, AVal.int .i64 size];
 let z2 := DxA.mk U0 U1 U2 rows ver (Obj.var z0) l3;
 let z3 := AVal.iface 41 (AVal.agg [AVal.int .i64 w.at_, AVal.int .i64 33]);
 let z4 := [U0, U1, U2, Obj.arr 2 rows ver, Obj.var z0, Obj.var [AVal.str l3]];
 let z5 := [AVal.ptr (Oid.hp 4) 0, AVal.int .i64 1];
  bif c1 || !c2 then bif !bif c2 then (w.words.getD 1 wd0).kind == 5 else false then k (Out.panic z3 (PsX.mk U0 U1 U2 it rows ver left size).heap) else bif c1 then bif !nameB l3 then k (Out.panic (AVal.iface 41 (AVal.agg [AVal.int .i64 w.at_, AVal.int .i64 31])) (PsX.mk U0 U1 U2 it rows ver left size).heap) else bif c1 then bif !n0 == 2 then k (Out.panic z3 z4) else bif tst (dxOk z2 ∧ SubTL [AVal.own 3 0 rows.length ver false, AVal.func 44 [AVal.ptr (Oid.hp 5) 0], AVal.int .i64 n4, AVal.int .i64 0] [dfOw rows ver, dfCl, AVal.int .i64 n4, AVal.int .i64 0] ∧ ([] : List (List AVal)) = [] ∧ z4 = z2.heap) then bif dxAny z2 then k (Out.panic (AVal.iface 41 (AVal.agg [AVal.int .i64 w.at_, AVal.int .i64 6])) z2.heap) else bif ver == ver && rows.length == rows.length && decide ((2 * m5 + 1000) * 40 ≤ 281474976710656) && true then bif tst (okN (NdA.mk (PsX.mk U0 U1 U2 it (rows.append [[AVal.str l3, AVal.list true 0 fun (x : Nat) => []]]) m6 left size) (List.drop 5 [U0, U1, U2, Obj.arr 2 (rows.append [[AVal.str l3, AVal.list true 0 fun (x : Nat) => []]]) m6, Obj.var z1, Obj.var [AVal.str l3]]) 1) ∧ SubL z5 z5 ∧ [U0, U1, U2, Obj.arr 2 (rows.append [[AVal.str l3, AVal.list true 0 fun (x : Nat) => []]]) m6, Obj.var z1, Obj.var [AVal.str l3]] = [U0, U1, U2, Obj.arr 2 (rows.append [[AVal.str l3, AVal.list true 0 fun (x : Nat) => []]]) m6, Obj.var [it, AVal.own 3 0 (rows.append [[AVal.str l3, AVal.list true 0 fun (x : Nat) => []]]).length m6 false, AVal.int .i64 left, AVal.int .i64 size], Obj.var [AVal.str l3]]) then bif (ndN 1 it (rows.append [[AVal.str l3, AVal.list true 0 fun (x : Nat) => []]]) m6 left size).bad.isSome then k (Out.panic (fltS ((ndN 1 it (rows.append [[AVal.str l3, AVal.list true 0 fun (x : Nat) => []]]) m6 left size).bad.getD (0, 0)).fst ((ndN 1 it (rows.append [[AVal.str l3, AVal.list true 0 fun (x : Nat) => []]]) m6 left size).bad.getD (0, 0)).snd) (hpX (PsX.mk U0 U1 U2 it (rows.append [[AVal.str l3, AVal.list true 0 fun (x : Nat) => []]]) m6 left size) (List.drop 5 [U0, U1, U2, Obj.arr 2 (rows.append [[AVal.str l3, AVal.list true 0 fun (x : Nat) => []]]) m6, Obj.var z1, Obj.var [AVal.str l3]]) (ndN 1 it (rows.append [[AVal.str l3, AVal.list true 0 fun (x : Nat) => []]]) m6 left size).s)) else bif !(ndN 1 it (rows.append [[AVal.str l3, AVal.list true 0 fun (x : Nat) => []]]) m6 left size).v.snd.head == [101, 110, 100] then k (Out.panic (AVal.iface 41 (AVal.agg [AVal.int .i64 (ndN 1 it (rows.append [[AVal.str l3, AVal.list true 0 fun (x : Nat) => []]]) m6 left size).v.snd.at_, AVal.int .i64 33])) (hpX (PsX.mk U0 U1 U2 it (rows.append [[AVal.str l3, AVal.list true 0 fun (x : Nat) => []]]) m6 left size) (List.drop 5 [U0, U1, U2, Obj.arr 2 (rows.append [[AVal.str l3, AVal.list true 0 fun (x : Nat) => []]]) m6, Obj.var z1, Obj.var [AVal.str l3]]) (ndN 1 it (rows.append [[AVal.str l3, AVal.list true 0 fun (x : Nat) => []]]) m6 left size).s)) else bif c8 && true && decide (n4 < (↑m9 : Int)) then bif c8 then bif c8 && decide (m10 < m9) && true then k (Out.ret (AVal.tuple []) [U0, U1, U2, Obj.arr 2 ((List.map encDf (ndN 1 it (rows.append [[AVal.str l3, AVal.list true 0 fun (x : Nat) => []]]) m6 left size).s.defs).set m10 (((List.map encDf (ndN 1 it (rows.append [[AVal.str l3, AVal.list true 0 fun (x : Nat) => []]]) m6 left size).s.defs).getD m10 []).set 1 (AVal.list false (ndN 1 it (rows.append [[AVal.str l3, AVal.list true 0 fun (x : Nat) => []]]) m6 left size).v.fst.length fun (i : Nat) => encNd ((ndN 1 it (rows.append [[AVal.str (w.words.getD 1 wd0).text, AVal.list true 0 fun (x : Nat) => []]]) (ver + 1) left size).v.fst.getD i nd0)))) m7, Obj.var [encIts (ndN 1 it (rows.append [[AVal.str l3, AVal.list true 0 fun (x : Nat) => []]]) m6 left size).s.items, AVal.own 3 0 m9 m7 false, AVal.int .i64 (ndN 1 it (rows.append [[AVal.str l3, AVal.list true 0 fun (x : Nat) => []]]) m6 left size).s.left, AVal.int .i64 (ndN 1 it (rows.append [[AVal.str l3, AVal.list true 0 fun (x : Nat) => []]]) m6 left size).s.size], Obj.var [AVal.str l3]]) else none else none else none else none else none else none else none else none else none) := by kernel_rfl
end Go.Mu
namespace Go.Mu
open Go Go.Proofs
theorem decSt_e (its : List ItemD) (ds : List DfD) (v : Nat) (l z : Int) : decSt (encIts its) (ds.map encDf) v l z = ⟨its, ds, l, z, v⟩ := by
 unfold decSt
 have e1 : decL decItem (encIts its) = its := decL_encL (fun x => rfl) its
 have e2 : (ds.map encDf).map decDf = ds := by
  rw [List.map_map]
  have : decDf ∘ encDf = id := rfl
  rw [this, List.map_id]
 rw [e1, e2]
theorem ndN_e (deep : Int) (its : List ItemD) (ds : List DfD) (v : Nat) (l z : Int) : ndN deep (encIts its) (ds.map encDf) v l z = nodesR deep ⟨its, ds, l, z, v⟩ := by unfold ndN; rw [decSt_e]
theorem bkN_e (kind : Int) (ws : List WdD) (head : Nm) (at_ n deep : Int) (its : List ItemD) (ds : List DfD) (v : Nat) (l z : Int) : bkN kind (encWqs false ws) head at_ n deep (encIts its) (ds.map encDf) v l z = blockR kind ⟨ws, head, at_⟩ n.toNat deep ⟨its, ds, l, z, v⟩ := by unfold bkN; rw [decSt_e, decWqs_e]
theorem dfN_e (ws : List WdD) (head : Nm) (at_ : Int) (its : List ItemD) (ds : List DfD) (v : Nat) (l z : Int) : dfN (encWqs false ws) head at_ (encIts its) (ds.map encDf) v l z = defineR ⟨ws, head, at_⟩ ⟨its, ds, l, z, v⟩ := by unfold dfN; rw [decSt_e, decWqs_e]
theorem sgN_e (ws : List WdD) (head : Nm) (at_ : Int) (its : List ItemD) (ds : List DfD) (v : Nat) (l z : Int) : sgN (encWqs false ws) head at_ (encIts its) (ds.map encDf) v l z = singleP ⟨ws, head, at_⟩ ⟨its, ds, l, z, v⟩ := by unfold sgN; rw [decSt_e, decWqs_e]
theorem ndN_s (deep : Int) (s : PsD) : ndN deep (encIts s.items) (s.defs.map encDf) s.ver s.left s.size = nodesR deep s := ndN_e _ _ _ _ _ _
theorem bkN_s (kind : Int) (w : PcD) (n deep : Int) (s : PsD) : bkN kind (encWqs false w.words) w.head w.at_ n deep (encIts s.items) (s.defs.map encDf) s.ver s.left s.size = blockR kind w n.toNat deep s := bkN_e _ _ _ _ _ _ _ _ _ _ _
def okU (U : Obj3) : Prop := ∃ a b : Int, U = (.var [nilList], .var [.int .i64 a], .var [.int .i64 b])
def okG (G : Heap) : Prop := ∀ t n, G[0]? ≠ some (.note t n)
def encX (U : Obj3) (s : PsD) : PsX := PsX.mk U.1 U.2.1 U.2.2 (encIts s.items) (s.defs.map encDf) s.ver s.left s.size
def okX (m : Nat) (x : PsX) : Prop := ∃ U s, x = encX U s ∧ okS s ∧ s.items.length < m ∧ okU U
def okNd (m : Nat) (a : NdA) : Prop := okX m a.x ∧ okG a.G ∧ 0 ≤ a.deep ∧ a.deep ≤ 100
def okBk (m : Nat) (a : BkA) : Prop := okX m a.x ∧ okG a.G ∧ (∃ l, a.ws = encWqs false l ∧ okPc ⟨l, a.head, a.at_⟩ ∧ 0 ≤ a.n ∧ a.n.toNat ≤ l.length) ∧ 0 ≤ a.deep ∧ a.deep ≤ 100
def okSg (a : SgA) : Prop := (∃ m, okX m a.x) ∧ okG a.G ∧ ∃ l, a.ws = encWqs false l ∧ okPc ⟨l, a.head, a.at_⟩
def okDf (m : Nat) (a : SgA) : Prop := (∃ U s, a.x = encX U s ∧ okS s ∧ s.items.length < m ∧ okU U ∧ s.defs.length + s.items.length + 1 ≤ 65536) ∧ okG a.G ∧ ∃ l, a.ws = encWqs false l ∧ okPc ⟨l, a.head, a.at_⟩
theorem okG_nil : okG [] := fun t n h => by simp at h
theorem bk_res (m : Nat) (U : Obj3) (hU : okU U) (s : PsD) (hs : okS s) (hm : s.items.length < m + 1) (kind : Int) (w : PcD) (hw : okPc w) (n : Nat) (hn : n ≤ w.words.length) (deep : Int) (hd0 : 0 ≤ deep) (hd1 : deep ≤ 100) (k : Out → Ans) :
 iFun Tryz.prog ((layBk (okNd (m + 1)) (okBk m)).hd Tryz.prog) (layBk (okNd (m + 1)) (okBk m)).fhs 0 25 [.ptr (.hp 4) 0, .int .i64 kind, .agg (encPc w), .int .i64 (n : Int), .int .i64 deep] (hpS U s) k = pOut (blockR kind w n deep s) ndV (hpS U) k := by
 refine (bk_fun (okNd (m + 1)) (okBk m) U.1 U.2.1 U.2.2 (encIts s.items) (s.defs.map encDf) s.ver s.left s.size kind w n deep k).trans ?_
 have pn := par_tst hw n (.int .i64 w.at_)
 have dn := drop_enc w.words n (n : Int) hn rfl
 rw [blockR_eq, pOut_then]
 have hst := stp_count hs w.at_
 unfold countP at hst ⊢
 by_cases hc : s.size < 1024
 case neg => simp only [dF hc, Bool.not_false, cond_true, cond_false]; rfl
 have hsz : 0 ≤ s.size := hs.2.2.1
 have ew : IntKind.i64.wrap (s.size + 1) = s.size + 1 := wrap_of (by omega) (by omega)
 have ed : IntKind.i64.wrap (deep + 1) = deep + 1 := wrap_of (by omega) (by omega)
 rw [dT hc] at hst
 simp only [cond_true] at hst
 have hs1 := hst.1
 have hle : ∀ t : PsD, t = { s with size := s.size + 1 } → t.items.length = s.items.length := fun t e => by rw [e]
 generalize hs1e : (psOk () { s with size := s.size + 1 }).s = s1 at hst hs1
 have hs1f : s1 = { s with size := s.size + 1 } := hs1e.symm
 have hit : s1.items.length = s.items.length := hle s1 hs1f
 have eN : ndN (deep + 1) (encIts s.items) (s.defs.map encDf) s.ver s.left (s.size + 1) = nodesR (deep + 1) s1 := by rw [ndN_e, hs1f]
 simp only [dT hc, Bool.not_true, cond_false, cond_true, ew, ed, dn, parE_enc, parV_enc, parA_enc, pn, eN, dT (show (n : Int) ≤ (w.words.length : Int) by omega), dT (show (w.words.length : Int) ≤ (w.words.length : Int) by omega), Bool.and_self]
 show _ = pOut ((pipeP w n { s with size := s.size + 1 }).andThen nd0 _) ndV (hpS U) k
 rw [← hs1f]
 rw [pOut_then]
 unfold pipeP
 cases hp : (parR (w.words.drop n) w.at_).2.2 == 0 with
 | false => rw [hs1f]; simp only [Bool.not_false, cond_true, cond_false]; rfl
 | true =>
 simp only [Bool.not_true, cond_false, cond_true]
 show _ = pOut (bif decide (deep < 16) then _ else _ : PRes NdD) ndV (hpS U) k
 by_cases h16 : deep < 16
 case neg => simp only [dF h16, Bool.not_false, cond_true, cond_false]; rw [hs1f]; rfl
 have tN : tst (okNd (m + 1) (NdA.mk (PsX.mk U.1 U.2.1 U.2.2 (encIts s.items) (s.defs.map encDf) s.ver s.left (s.size + 1)) [] (deep + 1)) ∧ SubL [AVal.ptr (Oid.hp 4) 0, AVal.int .i64 (deep + 1)] [AVal.ptr (Oid.hp 4) 0, AVal.int .i64 (deep + 1)] ∧ True) = true :=
  tst_true ⟨⟨⟨U, s1, by rw [hs1f]; rfl, hs1, by omega, hU⟩, okG_nil, by show 0 ≤ deep + 1; omega, by show deep + 1 ≤ 100; omega⟩, .refl _, trivial⟩
 simp only [dT h16, Bool.not_true, cond_false, cond_true]
 show _ = pOut ((nodesR (deep + 1) s1).andThen nd0 (elseR kind w (parR (w.words.drop n) w.at_).1 deep)) ndV (hpS U) k
 rw [pOut_then]
 refine cT tN ?_
 have hst2 := stp_nodesR hs1 (deep + 1)
 have hpc := nodesR_pc hs1 (deep + 1)
 have hlt := @nodesR_lt (deep + 1) s1
 generalize nodesR (deep + 1) s1 = r at hst2 hpc hlt
 obtain ⟨rb, ⟨body, e⟩, s2⟩ := r
 simp only at hst2 hpc hlt
 cases rb with
 | some b => rfl
 | none =>
 simp only [Option.isSome_none, cond_false]
 have hs2 := hst2.1
 have hpc := hpc rfl
 have hlt := hlt rfl
 unfold elseR
 have eE : (e.head == [101, 108, 115, 101]) = (e.head == sElse) := rfl
 have eD : (e.head == [101, 110, 100]) = (e.head == sEnd) := rfl
 have h0 : okX (m + 1) (encX U s2) := ⟨U, s2, rfl, hs2, by have := hst2.2.1; omega, hU⟩
 simp only [eE, eD, ndN_s, bkN_s, show Int.toNat 2 = 2 from rfl]
 cases he : e.head == sElse with
 | false =>
  simp only [cond_false, Bool.false_and]
  cases e.head == sEnd <;> rfl
 | true =>
  have hh : e.head ≠ [] := by
   rw [beq_iff_eq] at he; rw [he]; decide
  have hpc := hpc hh
  have hlt := hlt hh
  simp only [cond_true, Bool.true_and]
  by_cases h1 : 1 < e.words.length
  case neg =>
   simp only [dF h1, dF (show ¬ (e.words.length : Int) > 1 by omega), cond_false]
   refine cT (tst_true ⟨⟨h0, okG_nil, by show 0 ≤ deep + 1; omega, by show deep + 1 ≤ 100; omega⟩, .refl _, rfl⟩) ?_
   rw [pOut_then]
   generalize nodesR (deep + 1) s2 = r2
   obtain ⟨rb, ⟨els, e2⟩, s3⟩ := r2
   cases rb with
   | some b => rfl
   | none =>
    have eD : (e2.head == [101, 110, 100]) = (e2.head == sEnd) := rfl
    simp only [Option.isSome_none, cond_false, eD]
    cases e2.head == sEnd <;> rfl
  simp only [dT h1, dT (show (e.words.length : Int) > 1 by omega), dT (show (1 : Int) < (e.words.length : Int) by omega), Bool.true_or, cond_true]
  have eI : ((e.words.getD 1 wd0).text == [105, 102]) = ((e.words.getD 1 wd0).text == sIf) := rfl
  simp only [eI, bif_and]
  cases hk : ((e.words.getD 1 wd0).kind == 1 && (e.words.getD 1 wd0).text == sIf) with
  | false => rfl
  | true =>
   simp only [Bool.not_true, cond_false, cond_true]
   by_cases h17 : deep + 1 < 16
   case neg => simp only [dF h17, Bool.not_false, cond_true, cond_false]; rfl
   simp only [dT h17, Bool.not_true, cond_false, cond_true]
   refine cT (tst_true ⟨⟨⟨U, s2, rfl, hs2, by omega, hU⟩, okG_nil, ⟨e.words, rfl, hpc, by show (0 : Int) ≤ 2; omega, h1⟩, by show 0 ≤ deep + 1; omega, by show deep + 1 ≤ 100; omega⟩, .refl _, rfl⟩) ?_
   rw [pOut_then]
   generalize blockR 3 e 2 (deep + 1) s2 = r2
   obtain ⟨rb, nd, s3⟩ := r2
   cases rb <;> rfl
end Go.Mu
namespace Go.Mu
open Go Go.Proofs
theorem refs_map (ds : List DfD) (v : Nat) : refsO 5 (.arr 2 (ds.map encDf) v) = true := by
 unfold refsO
 rw [List.all_eq_true]
 intro r hr
 obtain ⟨d, _, rfl⟩ := List.mem_map.1 hr
 rfl
theorem refs_hp {U : Obj3} (hU : okU U) (s : PsD) : ∀ x ∈ hpS U s, refsO 5 x = true := by
 intro x hx
 have hx : x ∈ [U.1, U.2.1, U.2.2, .arr 2 (s.defs.map encDf) s.ver, .var [encIts s.items, .own 3 0 (s.defs.map encDf).length s.ver false, .int .i64 s.left, .int .i64 s.size]] := hx
 simp only [List.mem_cons, List.not_mem_nil, or_false] at hx
 obtain ⟨a, b, rfl⟩ := hU
 rcases hx with rfl | rfl | rfl | rfl | rfl
 · rfl
 · rfl
 · rfl
 · exact refs_map _ _
 · rfl
theorem leafR {L : Lay} (h : L.OK Tryz.prog) {f : FuncId} {xs : List AVal} {U : Obj3} (hU : okU U) {s t : PsD} {T : Heap} {v : AVal} (hv : refsD 6 5 v = true) (hr : ∀ k, iFun Tryz.prog (L.hd Tryz.prog) L.fhs 0 f xs (hpS U s) k = k (.ret v (hpS U t ++ T))) : CallOK Tryz.prog f xs (hpS U s) (.ret v (hpS U t)) :=
 CallOK.shrink (h.call hr) (Nat.le_refl 5) hv (refs_hp hU t)
theorem leafP {L : Lay} (h : L.OK Tryz.prog) {f : FuncId} {xs : List AVal} {U : Obj3} (hU : okU U) {s t : PsD} {T : Heap} {v : AVal} (hv : refsD 6 5 v = true) (hr : ∀ k, iFun Tryz.prog (L.hd Tryz.prog) L.fhs 0 f xs (hpS U s) k = k (.panic v (hpS U t ++ T))) : CallOK Tryz.prog f xs (hpS U s) (.panic v (hpS U t)) :=
 CallOK.shrinkP (h.call hr) (Nat.le_refl 5) hv (refs_hp hU t)
theorem psOk_s {α : Type} (v : α) (s : PsD) : (psOk v s).s = s := rfl
theorem psOk_v {α : Type} (v : α) (s : PsD) : (psOk v s).v = v := rfl
theorem psOk_b {α : Type} (v : α) (s : PsD) : (psOk v s).bad = none := rfl
theorem keyT {F A : (Out → Ans) → Ans} {c : Bool} (key : ∀ k, F k = cond c (A k) none) (h : c = true) : ∀ k, F k = A k := fun k => by rw [key k, h]; rfl
theorem set_enc (ds : List DfD) (i : Nat) (hi : i < ds.length) (b : AVal) (hb : ∃ f n r, b = .list f n r) : (ds.map encDf).set i (((ds.map encDf).getD i []).set 1 b) = (ds.set i (mkDf (ds.getD i df0).name b)).map encDf := by
 obtain ⟨f, n, r, rfl⟩ := hb
 have e : (ds.map encDf).getD i [] = encDf (ds.getD i df0) := by
  simp only [List.getD_eq_getElem?_getD, List.getElem?_map, List.getElem?_eq_getElem hi, Option.map_some, Option.getD_some]
 rw [e, List.map_set]
 rfl
theorem df_any (ds : List DfD) (a b c e : Obj) (v : Nat) (s : Nm) : dxAny (DxA.mk a b c (ds.map encDf) v e s) = ds.any (fun d => d.name == s) := by
 unfold dxAny
 rw [List.any_map]
 rfl
theorem df_call (m : Nat) (U : Obj3) (hU : okU U) (s : PsD) (hs : okS s) (hm : s.items.length < m) (hd : s.defs.length + s.items.length + 1 ≤ 65536) (w : PcD) (hw : okPc w) (hL : (layDf (okNd m)).OK Tryz.prog) :
 ∃ o, (∀ k : Out → Ans, pOut (defineR w s) (fun _ => .tuple []) (hpS U) k = k o) ∧ CallOK Tryz.prog 24 [.ptr (.hp 4) 0, .agg (encPc w)] (hpS U s) o := by
 have key := fun k => df_fun (okNd m) U.1 U.2.1 U.2.2 (encIts s.items) (s.defs.map encDf) s.ver s.left s.size w k
 change ∀ k, iFun Tryz.prog ((layDf (okNd m)).hd Tryz.prog) (layDf (okNd m)).fhs 0 24 [.ptr (.hp 4) 0, .agg (encPc w)] (hpS U s) k = _ at key
 rw [defineR_eq]
 simp only [pOut_then]
 unfold calledP
 by_cases h1 : 1 < w.words.length
 case neg =>
  simp only [dF h1, dF (show ¬ (w.words.length : Int) > 1 by omega), dF (show ¬ (1 : Int) < (w.words.length : Int) by omega), Bool.not_false, Bool.or_true, Bool.false_and, cond_true, cond_false] at key ⊢
  exact ⟨_, fun k => rfl, leafP (T := []) hL hU rfl key⟩
 simp only [dT h1, dT (show (w.words.length : Int) > 1 by omega), dT (show (1 : Int) < (w.words.length : Int) by omega), Bool.true_or, Bool.true_and, cond_true] at key ⊢
 cases hk : (w.words.getD 1 wd0).kind == 5 with
 | false =>
  simp only [hk, Bool.not_false, cond_true, cond_false] at key ⊢
  exact ⟨_, fun k => rfl, leafP (T := []) hL hU rfl key⟩
 | true =>
 simp only [hk, Bool.not_true, cond_true, cond_false] at key ⊢
 generalize hnm : (w.words.getD 1 wd0).text = nm at key ⊢
 cases hn : nameB nm with
 | false =>
  simp only [hn, Bool.not_false, cond_true, cond_false] at key ⊢
  exact ⟨_, fun k => rfl, leafP (T := []) hL hU rfl key⟩
 | true =>
 simp only [hn, Bool.not_true, cond_true, cond_false] at key ⊢
 show ∃ o, (∀ k : Out → Ans, pOut (bif w.words.length == 2 then _ else _ : PRes Unit) (fun _ => .tuple []) (hpS U) k = k o) ∧ _
 have e2 : ((w.words.length : Int) == 2) = (w.words.length == 2) := by
  rw [Bool.eq_iff_iff]; simp only [beq_iff_eq]; omega
 simp only [e2] at key
 cases h2 : w.words.length == 2 with
 | false =>
  simp only [h2, Bool.not_false, cond_true, cond_false] at key ⊢
  exact ⟨_, fun k => rfl, leafP (t := s) (T := [.var [.str nm]]) hL hU rfl key⟩
 | true =>
 simp only [h2, Bool.not_true, cond_true, cond_false] at key ⊢
 replace key := keyT key (tst_true ⟨⟨s.defs, rfl, by omega⟩, .refl _, by trivial, rfl⟩)
 simp only [df_any] at key
 simp only [psOk_s, psOk_v, psOk_b, Option.isSome_none, cond_false]
 cases ha : s.defs.any (fun d => d.name == nm) with
 | true =>
  simp only [ha, cond_true] at key ⊢
  exact ⟨_, fun k => rfl, leafP (t := s) (T := [.var [.str nm]]) hL hU rfl key⟩
 | false =>
 simp only [ha, cond_false] at key ⊢
 have hl : (s.defs.map encDf).length = s.defs.length := List.length_map _
 have g1 : (s.ver == s.ver && (s.defs.map encDf).length == (s.defs.map encDf).length && decide ((2 * ((s.defs.map encDf).length + 1) + 1000) * 40 ≤ 281474976710656) && true) = true := by
  rw [dT (by rw [hl]; omega)]; simp
 replace key := keyT key g1
 have ea : (s.defs.map encDf).append [[AVal.str nm, AVal.list true 0 fun (x : Nat) => []]] = (s.defs ++ [mkDf nm nilList]).map encDf := by
  show s.defs.map encDf ++ _ = _
  rw [List.map_append]
  rfl
 have hs1 : okS { s with defs := s.defs ++ [mkDf nm nilList], ver := s.ver + 1 } := by
  obtain ⟨g1, g2, g3, g4, g5⟩ := hs
  exact ⟨g1, g2, g3, g4, by show (s.defs ++ [mkDf nm nilList]).length + s.items.length ≤ 65536; rw [List.length_append]; simp only [List.length_singleton]; omega⟩
 have hl1 : ({ s with defs := s.defs ++ [mkDf nm nilList], ver := s.ver + 1 } : PsD).defs.length = s.defs.length + 1 := by show (s.defs ++ [mkDf nm nilList]).length = _; rw [List.length_append]; rfl
 have hi1 : ({ s with defs := s.defs ++ [mkDf nm nilList], ver := s.ver + 1 } : PsD).items.length < m := hm
 simp only [ea] at key
 have eN : ndN 1 (encIts s.items) ((s.defs ++ [mkDf nm nilList]).map encDf) (s.ver + 1) s.left s.size = nodesR 1 { s with defs := s.defs ++ [mkDf nm nilList], ver := s.ver + 1 } := ndN_e _ _ _ _ _ _
 simp only [eN] at key
 have eLn : ((s.defs ++ [mkDf nm nilList]).map encDf).length = (s.defs.map encDf).length + 1 := by rw [List.length_map, List.length_map, List.length_append]; rfl
 replace key := keyT key (tst_true ⟨⟨⟨U, _, rfl, hs1, hi1, hU⟩, fun t n => by simp, by show (0 : Int) ≤ 1; omega, by show (1 : Int) ≤ 100; omega⟩, .refl _, by rw [eLn]⟩)
 generalize hs0 : ({ s with defs := s.defs ++ [mkDf nm nilList], ver := s.ver + 1 } : PsD) = s0 at key hs1 hl1 ⊢
 have hst := stp_nodesR hs1 1
 generalize nodesR 1 s0 = r at key hst ⊢
 obtain ⟨rb, ⟨body, e⟩, s2⟩ := r
 cases rb with
 | some b =>
  simp only [Option.isSome_some, cond_true] at key
  exact ⟨_, fun k => rfl, leafP (t := s2) (T := [.var [.str nm]]) hL hU rfl key⟩
 | none =>
 simp only [Option.isSome_none, cond_false] at key
 have eD : (e.head == [101, 110, 100]) = (e.head == sEnd) := rfl
 simp only [eD] at key
 have hlen : s.defs.length < s2.defs.length := by
  have := hst.2.2.1
  rw [hl1] at this
  exact this
 show ∃ o, (∀ k : Out → Ans, pOut (bif e.head == sEnd then _ else _ : PRes Unit) (fun _ => .tuple []) (hpS U) k = k o) ∧ _
 cases he : e.head == sEnd with
 | false =>
  simp only [he, Bool.not_false, cond_true] at key
  exact ⟨_, fun k => rfl, leafP (t := s2) (T := [.var [.str nm]]) hL hU rfl key⟩
 | true =>
  simp only [he, Bool.not_true, cond_false] at key
  have hl2 : (s2.defs.map encDf).length = s2.defs.length := List.length_map _
  have c1 : (s2.ver == s2.ver && true && decide (((s.defs.map encDf).length : Int) < ((s2.defs.map encDf).length : Int))) = true := by rw [hl, hl2, dT (by omega)]; simp
  have c2 : (s2.ver == s2.ver) = true := by simp
  have c3 : (s2.ver == s2.ver && decide (0 + ((s.defs.map encDf).length : Int).toNat < (s2.defs.map encDf).length) && true) = true := by rw [hl, hl2, Int.toNat_natCast, dT (by omega)]; simp
  replace key := keyT (keyT (keyT key c1) c2) c3
  have e0 : 0 + ((s.defs.map encDf).length : Int).toNat = s.defs.length := by rw [hl, Int.toNat_natCast]; omega
  simp only [e0] at key
  have e5 := set_enc s2.defs s.defs.length hlen (bodyV body) ⟨_, _, _, rfl⟩
  have e6 : (s2.defs.map encDf).length = ((s2.defs.set s.defs.length (mkDf (s2.defs.getD s.defs.length df0).name (bodyV body))).map encDf).length := by rw [List.length_map, List.length_map, List.length_set]
  refine ⟨_, fun k => rfl, leafR (t := { s2 with defs := s2.defs.set s.defs.length (mkDf (s2.defs.getD s.defs.length df0).name (bodyV body)) }) (T := [.var [.str nm]]) hL hU rfl (fun k => (key k).trans ?_)⟩
  refine congrArg k (congrArg (Out.ret _) ?_)
  show _ = [U.1, U.2.1, U.2.2, Obj.arr 2 ((s2.defs.set s.defs.length (mkDf (s2.defs.getD s.defs.length df0).name (bodyV body))).map encDf) s2.ver, Obj.var [encIts s2.items, AVal.own 3 0 ((s2.defs.set s.defs.length (mkDf (s2.defs.getD s.defs.length df0).name (bodyV body))).map encDf).length s2.ver false, .int .i64 s2.left, .int .i64 s2.size], .var [.str nm]]
  rw [← e6, ← e5]
end Go.Mu
namespace Go.Mu
open Go Go.Proofs
def ndOV (out : List NdD) : AVal := match out with
 | [] => nilList
 | c :: t => .own 5 0 ((c :: t).map encNd).length t.length false
def ndOG (out : List NdD) : Heap := match out with
 | [] => []
 | c :: t => [.arr 9 ((c :: t).map encNd) t.length]
theorem ndOV_snoc (out : List NdD) (n : NdD) : ndOV (out ++ [n]) = .own 5 0 ((out.map encNd).length + 1) out.length false := by
 cases out with
 | nil => rfl
 | cons c t =>
  show AVal.own 5 0 ((c :: (t ++ [n])).map encNd).length (t ++ [n]).length false = _
  simp only [List.length_map, List.length_cons, List.length_append, List.length_singleton]
  rfl
theorem ndOG_snoc (out : List NdD) (n : NdD) : ndOG (out ++ [n]) = [.arr 9 ((out.map encNd).append [encNd n]) out.length] := by
 cases out with
 | nil => rfl
 | cons c t =>
  show [Obj.arr 9 ((c :: (t ++ [n])).map encNd) (t ++ [n]).length] = _
  simp only [List.map_cons, List.map_append, List.length_append, List.length_singleton]
  rfl
def oneR (deep : Int) (out : List NdD) (x : ItemD) (s : PsD) : LoopR :=
 bif x.kind == 1 then (textP out x s).andThen (out, none) fun o s => psOk (o, none) s
 else (wordsP x s).andThen (out, none) fun w s =>
  bif w.head == sEnd || w.head == sElse then
   (bif decide (deep > 0) && (w.head == sElse || w.words.length == 1) then psOk (out, some w) s else psBad (out, none) w.at_ 33 s)
  else bif w.head == sDefine then
   (bif decide (deep = 0) then (defineR w s).andThen (out, none) fun _ s => psOk (out, none) s else psBad (out, none) w.at_ 33 s)
  else bif decide (kindN w.head ≥ 0) then
   (blockR (3 + kindN w.head) w 1 deep s).andThen (out, none) fun n s => psOk (out ++ [n], none) s
  else (singleP w s).andThen (out, none) fun n s => psOk (out ++ [n], none) s
def okNl (m : Nat) (a : NdA) : Prop := okX (m + 1) a.x ∧ 0 ≤ a.deep ∧ a.deep ≤ 100
noncomputable abbrev ndTurn (m : Nat) := lturn Tryz.prog (layN0 (okDf m) okSg (okBk m)) (ndFH (okNl m)) 13 2 [0,1,5,6] [5] [0,1,4,5,6] [5]
def stN (U : Obj3) (deep : Int) (out : List NdD) (s : PsD) (D : Dfs) : St := stL 109 [0,1,5,6] [.ptr (.hp 4) 0, .int .i64 deep, .ptr (.tmp 5) 0, ndOV out] [5] [pcZ] (hpS U s ++ ndOG out) D
abbrev FK := List (FuncId × List AVal) → Kont → Ans
def RndOk (U : Obj3) (deep : Int) (F : FK) (r : LoopR) : Prop := match r.bad with
 | some b => ∃ vs, SubTL vs (vsP deep) ∧ ∀ D k, F D k = k (.panic (fltS b.1 b.2)) (stL 109 [0,1,4,5,6] vs [5] [[]] (hpS U r.s ++ ndOG r.v.1) D)
 | none => match r.v.2 with
  | some w => ∀ D k, F D k = k .ret (stL 109 [0,1,4,5,6] [.ptr (.hp 4) 0, .int .i64 deep, ndOV r.v.1, .ptr (.tmp 5) 0, ndOV r.v.1] [5] [encPc w] (hpS U r.s ++ ndOG r.v.1) D)
  | none => ∀ D k, F D k = k .normal (stN U deep r.v.1 r.s D)
theorem rnd_bad {U : Obj3} {deep : Int} {F : FK} {out : List NdD} {a e : Int} {s : PsD} {vs : List AVal} (h : SubTL vs (vsP deep)) (key : ∀ D k, F D k = k (.panic (fltS a e)) (stL 109 [0,1,4,5,6] vs [5] [[]] (hpS U s ++ ndOG out) D)) : RndOk U deep F (psBad (out, none) a e s) := ⟨vs, h, key⟩
theorem rnd_some {α : Type} {U : Obj3} {deep : Int} {F : FK} {out : List NdD} {r : PRes α} {f : α → PsD → LoopR} {b : Int × Int} {vs : List AVal} (hb : r.bad = some b) (h : SubTL vs (vsP deep)) (key : ∀ D k, F D k = k (.panic (fltS b.1 b.2)) (stL 109 [0,1,4,5,6] vs [5] [[]] (hpS U r.s ++ ndOG out) D)) : RndOk U deep F (r.andThen (out, none) f) := by
 unfold PRes.andThen
 rw [hb]
 exact ⟨vs, h, key⟩
theorem rnd_none {α : Type} {U : Obj3} {deep : Int} {F : FK} {out : List NdD} {r : PRes α} {f : α → PsD → LoopR} (hb : r.bad = none) (h : RndOk U deep F (f r.v r.s)) : RndOk U deep F (r.andThen (out, none) f) := by
 rw [at_ok hb]; exact h
theorem keyD {F A : FK} {c : Bool} (key : ∀ D k, F D k = cond c (A D k) none) (h : c = true) : ∀ D k, F D k = A D k := fun D k => by rw [key D k, h]; rfl
theorem its_tail (x : ItemD) (r : List ItemD) : (AVal.list false (((x :: r).length : Int) - 1).toNat fun (i : Nat) => encItem ((x :: r).getD (Int.toNat 1 + i) it0)) = encIts r := by
 have e1 : (((x :: r).length : Int) - 1).toNat = r.length := by rw [List.length_cons]; omega
 rw [e1]
 congr 1
 funext i
 rw [show Int.toNat 1 + i = i + 1 from Nat.add_comm _ _]
 rfl
theorem kind_idx (h : Nm) : idxS (decL decS (AVal.list true 3 fun (i : Nat) => [[AVal.str [105, 102]], [AVal.str [114, 97, 110, 103, 101]], [AVal.str [119, 105, 116, 104]]].getD i [])) h = kindN h := by
 have e : decL decS (AVal.list true 3 fun (i : Nat) => [[AVal.str [105, 102]], [AVal.str [114, 97, 110, 103, 101]], [AVal.str [119, 105, 116, 104]]].getD i []) = [sIf, sRange, sWith] := rfl
 rw [e]
 unfold idxS kindN
 simp only [List.any_cons, List.any_nil, List.findIdx_cons, List.findIdx_nil, Bool.or_false]
 cases h == sIf <;> cases h == sRange <;> cases h == sWith <;> rfl
theorem kind_sub (v : AVal) : SubL [AVal.list true 3 (fun (i : Nat) => [[AVal.str [105, 102]], [AVal.str [114, 97, 110, 103, 101]], [AVal.str [119, 105, 116, 104]]].getD i []), v]
 [ssL true (decL decS (AVal.list true 3 fun (i : Nat) => [[AVal.str [105, 102]], [AVal.str [114, 97, 110, 103, 101]], [AVal.str [119, 105, 116, 104]]].getD i [])), v] := by
 have e : decL decS (AVal.list true 3 fun (i : Nat) => [[AVal.str [105, 102]], [AVal.str [114, 97, 110, 103, 101]], [AVal.str [119, 105, 116, 104]]].getD i []) = [sIf, sRange, sWith] := rfl
 rw [e]
 refine .cons ?_ (.refl _)
 show Sub (.list true 3 _) (.list true 3 _)
 refine Sub.list (fun h => h) (fun i hi => ?_)
 match i, hi with
 | 0, _ => exact .refl _
 | 1, _ => exact .refl _
 | 2, _ => exact .refl _
theorem ndOV_set (c : NdD) (t : List NdD) (i : Nat) (n : NdD) : ndOV ((c :: t).set i n) = .own 5 0 ((c :: t).map encNd).length t.length false := by
 cases i with
 | zero => rfl
 | succ j =>
  show AVal.own 5 0 ((c :: t.set j n).map encNd).length (t.set j n).length false = _
  simp only [List.length_map, List.length_cons, List.length_set]
theorem ndOG_set (c : NdD) (t : List NdD) (i : Nat) (n : NdD) : ndOG ((c :: t).set i n) = [.arr 9 (((c :: t).map encNd).set i (encNd n)) t.length] := by
 cases i with
 | zero => rfl
 | succ j =>
  show [Obj.arr 9 ((c :: t.set j n).map encNd) (t.set j n).length] = _
  simp only [List.length_set, List.map_cons, List.set_cons_succ, List.map_set]
theorem kindN_le (h : Nm) : -1 ≤ kindN h ∧ kindN h ≤ 2 := by
 unfold kindN
 cases h == sIf
 · cases h == sRange
   · cases h == sWith <;> simp
   · simp
 · simp
theorem wdN_eq (x : ItemD) (s : PsD) : (wordsP x s).bad = (wdN x).bad ∧ (wordsP x s).v = (wdN x).v := by
 unfold wdN wordsP
 cases wdsE x == 0
 · exact ⟨rfl, rfl⟩
 · cases decide (0 < (wdsL x).length) <;> exact ⟨rfl, rfl⟩
def OkOut (out : List NdD) (L : Nat) : Prop := out.length + L ≤ 65536 ∧ ∀ n ∈ out, n.text.length + 16384 * L ≤ 1073741824
abbrev CtxN (m : Nat) (U : Obj3) (s : PsD) (x : ItemD) (r : List ItemD) (deep : Int) : Prop := okU U ∧ okS s ∧ s.items = x :: r ∧ r.length < m ∧ 0 ≤ deep ∧ deep ≤ 100
theorem nd_rd0 (m : Nat) (U : Obj3) (s : PsD) (x : ItemD) (r : List ItemD) (deep : Int) (hc : CtxN m U s x r deep) : RndOk U deep (fun D k => ndTurn m (stN U deep [] s D) k) (oneR deep [] x { s with items := r }) := by
 obtain ⟨hU, hs, e, hm, hd0, hd1⟩ := hc
 obtain ⟨hs1, hx, hdf⟩ := okS_pop hs e
 have key := fun D k => nd_step0 (okNl m) (okDf m) okSg (okBk m) U.1 U.2.1 U.2.2 s.items (s.defs.map encDf) s.ver s.left s.size deep D k
 change ∀ D k, ndTurn m (stN U deep [] s D) k = _ at key
 have hlen : (s.items.length : Int) = (r.length : Int) + 1 := by rw [e]; simp
 have e0 : s.items.getD 0 it0 = x := by rw [e]; rfl
 have eT : (AVal.list false ((s.items.length : Int) - 1).toNat fun (i : Nat) => encItem (s.items.getD (Int.toNat 1 + i) it0)) = encIts r := by rw [e]; exact its_tail x r
 simp only [e0, eT, dT (show (s.items.length : Int) > 0 by omega), dT (show (0 : Int) < (s.items.length : Int) by omega), dT (show (1 : Int) ≤ (s.items.length : Int) by omega), dT (show (s.items.length : Int) ≤ (s.items.length : Int) by omega), Bool.and_self, cond_true, kind_idx] at key
 have hsz0 : 0 ≤ s.size := hs.2.2.1
 unfold oneR
 cases hk : x.kind == 1 with
 | true =>
  simp only [hk, cond_true] at key ⊢
  unfold textP
  simp only [List.length_nil, dF (show ¬ 0 < 0 by omega), Bool.false_and, cond_false]
  unfold countP
  by_cases hcz : s.size < 1024
  case neg =>
   simp only [dF hcz, Bool.not_false, cond_true, cond_false] at key ⊢
   exact rnd_bad (.refl _) key
  have ew : IntKind.i64.wrap (s.size + 1) = s.size + 1 := wrap_of (by omega) (by omega)
  simp only [dT hcz, Bool.not_true, cond_true, cond_false, ew] at key ⊢
  exact key
 | false =>
 simp only [hk, cond_false] at key ⊢
 have hxE : ItemD.mk x.kind x.text x.at_ = x := rfl
 simp only [hxE] at key
 replace key := keyD key (tst_true ⟨hx, .refl _, by trivial⟩)
 obtain ⟨hw1, hw2⟩ := wdN_eq x { s with items := r }
 have hw3 : (wordsP x { s with items := r }).s = { s with items := r } := words_it _ _
 cases hwb : (wdN x).bad with
 | some b =>
  simp only [hwb, Option.isSome_some, cond_true, Option.getD_some] at key
  exact rnd_some (hw1.trans hwb) (.cons (.refl _) (.cons (.refl _) (.cons (.refl _) (.cons (.refl _) (.cons (.undef _) .nil))))) (fun D k => (key D k).trans (by rw [hw3]; rfl))
 | none =>
 have hwp := words_ok hx (s := { s with items := r }) (hw1.trans hwb)
 refine rnd_none (hw1.trans hwb) ?_
 rw [hw2, hw3] at *
 simp only [hwb, Option.isSome_none, cond_false] at key
 generalize (wdN x).v = w at key hwp ⊢
 replace key := keyD key (tst_true ⟨by decide, kind_sub _, by trivial⟩)
 have eE : (w.head == [101, 108, 115, 101]) = (w.head == sElse) := rfl
 have eN : (w.head == [101, 110, 100]) = (w.head == sEnd) := rfl
 have eD : (w.head == [100, 101, 102, 105, 110, 101]) = (w.head == sDefine) := rfl
 have el : ((w.words.length : Int) == 1) = (w.words.length == 1) := by
  rw [Bool.eq_iff_iff]; simp only [beq_iff_eq]; omega
 simp only [eE, eN, eD, el, bif_or, bif_and] at key
 cases he : (w.head == sEnd || w.head == sElse) with
 | true =>
  simp only [he, cond_true] at key ⊢
  cases h1 : (decide (deep > 0) && (w.head == sElse || w.words.length == 1)) with
  | false =>
   simp only [h1, Bool.not_false, cond_true, cond_false] at key ⊢
   exact rnd_bad (.cons (.refl _) (.cons (.refl _) (.cons (.refl _) (.cons (.refl _) (.cons (.undef _) .nil))))) key
  | true =>
   simp only [h1, Bool.not_true, cond_true, cond_false] at key ⊢
   exact key
 | false =>
 simp only [he, cond_false] at key ⊢
 cases hde : w.head == sDefine with
 | true =>
  simp only [hde, cond_true] at key ⊢
  have ed : (deep == 0) = decide (deep = 0) := by
   rw [Bool.eq_iff_iff]; simp only [beq_iff_eq, decide_eq_true_eq]
  simp only [ed] at key
  cases h0 : decide (deep = 0) with
  | false =>
   simp only [h0, Bool.not_false, cond_true, cond_false] at key ⊢
   exact rnd_bad (.cons (.refl _) (.cons (.refl _) (.cons (.refl _) (.cons (.refl _) (.cons (.undef _) .nil))))) key
  | true =>
   simp only [h0, Bool.not_true, cond_true, cond_false] at key ⊢
   replace key := keyD key (tst_true ⟨⟨⟨U, { s with items := r }, rfl, hs1.1, hm, hU, hdf⟩, okG_nil, w.words, rfl, hwp⟩, .refl _, by first | trivial | rfl⟩)
   have eF : dfN (encWqs false w.words) w.head w.at_ (encIts r) (s.defs.map encDf) s.ver s.left s.size = defineR w { s with items := r } := dfN_e _ _ _ _ _ _ _ _
   simp only [eF] at key
   generalize hr : defineR w { s with items := r } = q at key ⊢
   cases hq : q.bad with
   | some b =>
    simp only [hq, Option.isSome_some, cond_true, Option.getD_some] at key
    exact rnd_some hq (.cons (.refl _) (.cons (.refl _) (.cons (.refl _) (.cons (.refl _) (.cons (.undef _) .nil))))) key
   | none =>
    simp only [hq, Option.isSome_none, cond_false] at key
    exact rnd_none hq key
 | false =>
 simp only [hde, cond_false] at key ⊢
 obtain ⟨k0, k1⟩ := kindN_le w.head
 have ew : IntKind.i64.wrap (3 + kindN w.head) = 3 + kindN w.head := wrap_of (by omega) (by omega)
 simp only [ew] at key
 cases hkd : decide (kindN w.head ≥ 0) with
 | true =>
  simp only [hkd, cond_true] at key ⊢
  replace key := keyD key (tst_true ⟨⟨⟨U, { s with items := r }, rfl, hs1.1, hm, hU⟩, okG_nil, ⟨w.words, rfl, hwp, by show (0 : Int) ≤ 1; omega, hwp.1⟩, hd0, hd1⟩, .refl _, by first | trivial | rfl⟩)
  have eF : bkN (3 + kindN w.head) (encWqs false w.words) w.head w.at_ 1 deep (encIts r) (s.defs.map encDf) s.ver s.left s.size = blockR (3 + kindN w.head) w 1 deep { s with items := r } := bkN_e _ _ _ _ _ _ _ _ _ _ _
  simp only [eF] at key
  generalize hr : blockR (3 + kindN w.head) w 1 deep { s with items := r } = q at key ⊢
  obtain ⟨qb, nd, s2⟩ := q
  cases qb with
  | some b =>
   exact rnd_some rfl (.cons (.refl _) (.cons (.refl _) (.cons (.refl _) (.cons (.refl _) (.cons (.undef _) .nil))))) key
  | none =>
   refine rnd_none rfl ?_
   exact fun D k => (key D k).trans (by rw [show (psOk ([] ++ [nd], (none : Option PcD)) s2).v.1 = [] ++ [nd] from rfl]; unfold stN; rw [ndOV_snoc, ndOG_snoc]; rfl)
 | false =>
  simp only [hkd, cond_false] at key ⊢
  replace key := keyD key (tst_true ⟨⟨⟨m, U, { s with items := r }, rfl, hs1.1, hm, hU⟩, okG_nil, w.words, rfl, hwp⟩, .refl _, by first | trivial | rfl⟩)
  have eF : sgN (encWqs false w.words) w.head w.at_ (encIts r) (s.defs.map encDf) s.ver s.left s.size = singleP w { s with items := r } := sgN_e _ _ _ _ _ _ _ _
  simp only [eF] at key
  generalize hr : singleP w { s with items := r } = q at key ⊢
  obtain ⟨qb, nd, s2⟩ := q
  cases qb with
  | some b =>
   exact rnd_some rfl (.cons (.refl _) (.cons (.refl _) (.cons (.refl _) (.cons (.refl _) (.cons (.undef _) .nil))))) key
  | none =>
   refine rnd_none rfl ?_
   exact fun D k => (key D k).trans (by rw [show (psOk ([] ++ [nd], (none : Option PcD)) s2).v.1 = [] ++ [nd] from rfl]; unfold stN; rw [ndOV_snoc, ndOG_snoc]; rfl)
theorem nd_rd1 (m : Nat) (U : Obj3) (s : PsD) (x : ItemD) (r : List ItemD) (deep : Int) (hc : CtxN m U s x r deep) (c : NdD) (t : List NdD) (ho : OkOut (c :: t) (r.length + 1)) : RndOk U deep (fun D k => ndTurn m (stN U deep (c :: t) s D) k) (oneR deep (c :: t) x { s with items := r }) := by
 obtain ⟨hU, hs, e, hm, hd0, hd1⟩ := hc
 obtain ⟨hs1, hx, hdf⟩ := okS_pop hs e
 have key := fun D k => nd_step1 (okNl m) (okDf m) okSg (okBk m) U.1 U.2.1 U.2.2 s.items (s.defs.map encDf) s.ver s.left s.size deep ((c :: t).map encNd) t.length D k
 change ∀ D k, ndTurn m (stN U deep (c :: t) s D) k = _ at key
 have hlen : (s.items.length : Int) = (r.length : Int) + 1 := by rw [e]; simp
 have e0 : s.items.getD 0 it0 = x := by rw [e]; rfl
 have eT : (AVal.list false ((s.items.length : Int) - 1).toNat fun (i : Nat) => encItem (s.items.getD (Int.toNat 1 + i) it0)) = encIts r := by rw [e]; exact its_tail x r
 simp only [e0, eT, dT (show (s.items.length : Int) > 0 by omega), dT (show (0 : Int) < (s.items.length : Int) by omega), dT (show (1 : Int) ≤ (s.items.length : Int) by omega), dT (show (s.items.length : Int) ≤ (s.items.length : Int) by omega), Bool.and_self, cond_true, kind_idx] at key
 have hsz0 : 0 ≤ s.size := hs.2.2.1
 unfold oneR
 cases hk : x.kind == 1 with
 | true =>
  simp only [hk, cond_true] at key ⊢
  have hn : ((c :: t).map encNd).length = t.length + 1 := by simp
  have hj : (t.length : Int) + 1 - 1 = (t.length : Int) := by omega
  have ho1 := ho.1
  simp only [List.length_cons] at ho1
  have ewn : IntKind.i64.wrap (((c :: t).map encNd).length - 1 : Int) = (t.length : Int) := by
   rw [hn]
   have : ((t.length + 1 : Nat) : Int) - 1 = (t.length : Int) := by omega
   rw [this]
   exact wrap_of (by omega) (by omega)
  have eget : ((c :: t).map encNd).getD t.length [] = encNd (lastN (c :: t)) := by
   unfold lastN
   have hi : t.length < (c :: t).length := Nat.lt_succ_self _
   simp only [List.getD_eq_getElem?_getD, List.getElem?_map, List.length_cons, Nat.add_sub_cancel, List.getElem?_eq_getElem hi, Option.map_some, Option.getD_some]
  have hmem : lastN (c :: t) ∈ c :: t := by
   unfold lastN
   have hi : (c :: t).length - 1 < (c :: t).length := by simp
   simp only [List.getD_eq_getElem?_getD, List.getElem?_eq_getElem hi, Option.getD_some]
   exact List.getElem_mem hi
  have hbt := ho.2 _ hmem
  have d1 : decide ((0 : Int) ≤ (t.length : Int)) = true := dT (by omega)
  have d2 : decide ((t.length : Int) < (((c :: t).map encNd).length : Int)) = true := dT (by rw [hn]; omega)
  have d3 : decide ((t.length : Int) ≥ 0) = true := dT (by omega)
  have d4 : decide (t.length < ((c :: t).map encNd).length) = true := dT (by rw [hn]; omega)
  have ez : 0 + (t.length : Int).toNat = t.length := by omega
  simp only [ewn, ez, eget, d1, d2, d3, d4, beq_self_eq_true, Bool.and_self, Bool.true_and, Bool.and_true, Bool.true_or, cond_true] at key
  generalize hln : lastN (c :: t) = ln at *
  change ∀ D k, _ = cond (cond true (ln.kind == 1) false) _ _ at key
  simp only [cond_true] at key
  unfold textP
  simp only [hln, List.length_cons, dT (show 0 < t.length + 1 by omega), Bool.true_and]
  cases hk1 : ln.kind == 1 with
  | true =>
   simp only [hk1, cond_true] at key ⊢
   have hlx := hx.1
   have e5 : strOf ((encNd ln).getD 1 AVal.undef) = ln.text := rfl
   have hlt : decide (ln.text.length + x.text.length ≤ 4611686018427387904) = true := dT (by omega)
   replace key := keyD (keyD key rfl) hlt
   refine fun D k => (key D k).trans ?_
   show _ = k .normal (stN U deep ((c :: t).set (t.length + 1 - 1) { ln with text := ln.text ++ x.text }) { s with items := r } D)
   unfold stN
   rw [ndOV_set, ndOG_set]
   rfl
  | false =>
  simp only [hk1, cond_false] at key ⊢
  unfold countP
  by_cases hcz : s.size < 1024
  case neg =>
   simp only [dF hcz, Bool.not_false, cond_true, cond_false] at key ⊢
   exact rnd_bad (.refl _) key
  have ew : IntKind.i64.wrap (s.size + 1) = s.size + 1 := wrap_of (by omega) (by omega)
  simp only [dT hcz, Bool.not_true, cond_true, cond_false, ew] at key ⊢
  replace key := keyD key (show decide ((2 * (((c :: t).map encNd).length + 1) + 1000) * 136 ≤ 281474976710656) = true from dT (by rw [hn]; omega))
  refine fun D k => (key D k).trans ?_
  show _ = k .normal (stN U deep ((c :: t) ++ [mkNd 1 x.text [] nilList nilList nilList x.at_]) { s with items := r, size := s.size + 1 } D)
  unfold stN
  rw [ndOV_snoc, ndOG_snoc]
  rfl
 | false =>
 simp only [hk, cond_false] at key ⊢
 have hxE : ItemD.mk x.kind x.text x.at_ = x := rfl
 simp only [hxE] at key
 replace key := keyD key (tst_true ⟨hx, .refl _, by trivial⟩)
 obtain ⟨hw1, hw2⟩ := wdN_eq x { s with items := r }
 have hw3 : (wordsP x { s with items := r }).s = { s with items := r } := words_it _ _
 cases hwb : (wdN x).bad with
 | some b =>
  simp only [hwb, Option.isSome_some, cond_true, Option.getD_some] at key
  exact rnd_some (hw1.trans hwb) (.cons (.refl _) (.cons (.refl _) (.cons (.refl _) (.cons (.refl _) (.cons (.undef _) .nil))))) (fun D k => (key D k).trans (by rw [hw3]; rfl))
 | none =>
 have hwp := words_ok hx (s := { s with items := r }) (hw1.trans hwb)
 refine rnd_none (hw1.trans hwb) ?_
 rw [hw2, hw3] at *
 simp only [hwb, Option.isSome_none, cond_false] at key
 generalize (wdN x).v = w at key hwp ⊢
 replace key := keyD key (tst_true ⟨by decide, kind_sub _, by trivial⟩)
 have eE : (w.head == [101, 108, 115, 101]) = (w.head == sElse) := rfl
 have eN : (w.head == [101, 110, 100]) = (w.head == sEnd) := rfl
 have eD : (w.head == [100, 101, 102, 105, 110, 101]) = (w.head == sDefine) := rfl
 have el : ((w.words.length : Int) == 1) = (w.words.length == 1) := by
  rw [Bool.eq_iff_iff]; simp only [beq_iff_eq]; omega
 simp only [eE, eN, eD, el, bif_or, bif_and] at key
 cases he : (w.head == sEnd || w.head == sElse) with
 | true =>
  simp only [he, cond_true] at key ⊢
  cases h1 : (decide (deep > 0) && (w.head == sElse || w.words.length == 1)) with
  | false =>
   simp only [h1, Bool.not_false, cond_true, cond_false] at key ⊢
   exact rnd_bad (.cons (.refl _) (.cons (.refl _) (.cons (.refl _) (.cons (.refl _) (.cons (.undef _) .nil))))) key
  | true =>
   simp only [h1, Bool.not_true, cond_true, cond_false] at key ⊢
   exact key
 | false =>
 simp only [he, cond_false] at key ⊢
 cases hde : w.head == sDefine with
 | true =>
  simp only [hde, cond_true] at key ⊢
  have ed : (deep == 0) = decide (deep = 0) := by
   rw [Bool.eq_iff_iff]; simp only [beq_iff_eq, decide_eq_true_eq]
  simp only [ed] at key
  cases h0 : decide (deep = 0) with
  | false =>
   simp only [h0, Bool.not_false, cond_true, cond_false] at key ⊢
   exact rnd_bad (.cons (.refl _) (.cons (.refl _) (.cons (.refl _) (.cons (.refl _) (.cons (.undef _) .nil))))) key
  | true =>
   simp only [h0, Bool.not_true, cond_true, cond_false] at key ⊢
   replace key := keyD key (tst_true ⟨⟨⟨U, { s with items := r }, rfl, hs1.1, hm, hU, hdf⟩, (fun t n => by simp), w.words, rfl, hwp⟩, .refl _, by first | trivial | rfl⟩)
   have eF : dfN (encWqs false w.words) w.head w.at_ (encIts r) (s.defs.map encDf) s.ver s.left s.size = defineR w { s with items := r } := dfN_e _ _ _ _ _ _ _ _
   simp only [eF] at key
   generalize hr : defineR w { s with items := r } = q at key ⊢
   cases hq : q.bad with
   | some b =>
    simp only [hq, Option.isSome_some, cond_true, Option.getD_some] at key
    exact rnd_some hq (.cons (.refl _) (.cons (.refl _) (.cons (.refl _) (.cons (.refl _) (.cons (.undef _) .nil))))) key
   | none =>
    simp only [hq, Option.isSome_none, cond_false] at key
    exact rnd_none hq key
 | false =>
 simp only [hde, cond_false] at key ⊢
 obtain ⟨k0, k1⟩ := kindN_le w.head
 have ew : IntKind.i64.wrap (3 + kindN w.head) = 3 + kindN w.head := wrap_of (by omega) (by omega)
 simp only [ew] at key
 cases hkd : decide (kindN w.head ≥ 0) with
 | true =>
  simp only [hkd, cond_true] at key ⊢
  replace key := keyD key (tst_true ⟨⟨⟨U, { s with items := r }, rfl, hs1.1, hm, hU⟩, (fun t n => by simp), ⟨w.words, rfl, hwp, by show (0 : Int) ≤ 1; omega, hwp.1⟩, hd0, hd1⟩, .refl _, by first | trivial | rfl⟩)
  have eF : bkN (3 + kindN w.head) (encWqs false w.words) w.head w.at_ 1 deep (encIts r) (s.defs.map encDf) s.ver s.left s.size = blockR (3 + kindN w.head) w 1 deep { s with items := r } := bkN_e _ _ _ _ _ _ _ _ _ _ _
  simp only [eF] at key
  generalize hr : blockR (3 + kindN w.head) w 1 deep { s with items := r } = q at key ⊢
  obtain ⟨qb, nd, s2⟩ := q
  cases qb with
  | some b =>
   exact rnd_some rfl (.cons (.refl _) (.cons (.refl _) (.cons (.refl _) (.cons (.refl _) (.cons (.undef _) .nil))))) key
  | none =>
   refine rnd_none rfl ?_
   have c15 : (t.length == t.length && ((c :: t).map encNd).length == ((c :: t).map encNd).length && decide ((2 * (((c :: t).map encNd).length + 1) + 1000) * 136 ≤ 281474976710656) && true) = true := by
    have hn : ((c :: t).map encNd).length = t.length + 1 := by simp
    have ho1 := ho.1
    simp only [List.length_cons] at ho1
    rw [dT (by rw [hn]; omega)]; simp
   replace key := keyD key c15
   exact fun D k => (key D k).trans (by rw [show (psOk ((c :: t) ++ [nd], (none : Option PcD)) s2).v.1 = (c :: t) ++ [nd] from rfl]; unfold stN; rw [ndOV_snoc, ndOG_snoc]; rfl)
 | false =>
  simp only [hkd, cond_false] at key ⊢
  replace key := keyD key (tst_true ⟨⟨⟨m, U, { s with items := r }, rfl, hs1.1, hm, hU⟩, (fun t n => by simp), w.words, rfl, hwp⟩, .refl _, by first | trivial | rfl⟩)
  have eF : sgN (encWqs false w.words) w.head w.at_ (encIts r) (s.defs.map encDf) s.ver s.left s.size = singleP w { s with items := r } := sgN_e _ _ _ _ _ _ _ _
  simp only [eF] at key
  generalize hr : singleP w { s with items := r } = q at key ⊢
  obtain ⟨qb, nd, s2⟩ := q
  cases qb with
  | some b =>
   exact rnd_some rfl (.cons (.refl _) (.cons (.refl _) (.cons (.refl _) (.cons (.refl _) (.cons (.undef _) .nil))))) key
  | none =>
   refine rnd_none rfl ?_
   have c15 : (t.length == t.length && ((c :: t).map encNd).length == ((c :: t).map encNd).length && decide ((2 * (((c :: t).map encNd).length + 1) + 1000) * 136 ≤ 281474976710656) && true) = true := by
    have hn : ((c :: t).map encNd).length = t.length + 1 := by simp
    have ho1 := ho.1
    simp only [List.length_cons] at ho1
    rw [dT (by rw [hn]; omega)]; simp
   replace key := keyD key c15
   exact fun D k => (key D k).trans (by rw [show (psOk ((c :: t) ++ [nd], (none : Option PcD)) s2).v.1 = (c :: t) ++ [nd] from rfl]; unfold stN; rw [ndOV_snoc, ndOG_snoc]; rfl)
end Go.Mu
namespace Go.Mu
open Go Go.Proofs
theorem piece_one (deep : Int) (out : List NdD) (x : ItemD) (s : PsD) : pieceR deep out x s = match (oneR deep out x s).bad with
 | some _ => oneR deep out x s
 | none => match (oneR deep out x s).v.2 with
  | some _ => oneR deep out x s
  | none => loopR deep (oneR deep out x s).v.1 (oneR deep out x s).s := by
 unfold pieceR oneR
 cases x.kind == 1 with
 | true =>
  simp only [cond_true]
  unfold PRes.andThen
  cases (textP out x s).bad <;> rfl
 | false =>
  simp only [cond_false]
  unfold PRes.andThen
  cases (wordsP x s).bad with
  | some b => rfl
  | none =>
   simp only
   generalize (wordsP x s).v = w
   generalize (wordsP x s).s = s
   cases w.head == sEnd || w.head == sElse with
   | true => cases decide (deep > 0) && (w.head == sElse || w.words.length == 1) <;> rfl
   | false =>
    simp only [cond_false]
    cases w.head == sDefine with
    | true =>
     simp only [cond_true]
     cases decide (deep = 0) with
     | true =>
      simp only [cond_true]
      cases (defineR w s).bad <;> rfl
     | false => rfl
    | false =>
     simp only [cond_false]
     cases decide (kindN w.head ≥ 0) with
     | true =>
      simp only [cond_true]
      cases (blockR (3 + kindN w.head) w 1 deep s).bad <;> rfl
     | false =>
      simp only [cond_false]
      cases (singleP w s).bad <;> rfl
def OneOk (s : PsD) (r : LoopR) : Prop := r.bad = none → r.v.2 = none → okS r.s ∧ r.s.items.length ≤ s.items.length ∧ OkOut r.v.1 r.s.items.length
theorem OkOut.le {out : List NdD} {L M : Nat} (h : OkOut out L) (hm : M ≤ L) : OkOut out M := ⟨by have := h.1; omega, fun n hn => by have := h.2 n hn; omega⟩
theorem OkOut.snoc {out : List NdD} {L : Nat} {n : NdD} (h : OkOut out (L + 1)) (hn : n.text.length + 16384 * L ≤ 1073741824) : OkOut (out ++ [n]) L := by
 refine ⟨by rw [List.length_append]; have := h.1; simp only [List.length_singleton]; omega, fun x hx => ?_⟩
 rw [List.mem_append, List.mem_singleton] at hx
 rcases hx with hx | rfl
 · have := h.2 x hx; omega
 · exact hn
theorem one_then {α : Type} {s : PsD} {r : PRes α} {out : List NdD} {f : α → PsD → LoopR} (h : r.bad = none → OneOk s (f r.v r.s)) : OneOk s (r.andThen (out, none) f) := by
 unfold PRes.andThen
 cases e : r.bad with
 | some b => intro h; simp at h
 | none => exact h e
theorem one_bif {s : PsD} {c : Bool} {a b : LoopR} (h1 : c = true → OneOk s a) (h2 : c = false → OneOk s b) : OneOk s (bif c then a else b) := by
 cases c
 · exact h2 rfl
 · exact h1 rfl
theorem one_bad {s t : PsD} {v : List NdD × Option PcD} {a e : Int} : OneOk s (psBad v a e t) := fun h => by simp [psBad] at h
theorem single_text (w : PcD) (s : PsD) : (singleP w s).v.text = [] := by
 unfold singleP
 have pp : ∀ n (f : List CallD → NdD) (s : PsD), (∀ p, (f p).text = []) → ((pipeP w n s).andThen nd0 fun p s => psOk (f p) s).v.text = [] := fun n f s h => by
  unfold PRes.andThen
  cases (pipeP w n s).bad with
  | some b => rfl
  | none => exact h _
 have bb : ∀ (c : Bool) (a b : PRes NdD), a.v.text = [] → b.v.text = [] → (bif c then a else b).v.text = [] := fun c a b h1 h2 => by cases c <;> assumption
 have aa : ∀ {α : Type} (r : PRes α) (f : α → PsD → PRes NdD), (f r.v r.s).v.text = [] → (r.andThen nd0 f).v.text = [] := fun r f h => by
  unfold PRes.andThen
  cases r.bad with
  | some b => rfl
  | none => exact h
 refine aa _ _ (bb _ _ _ (aa _ _ (bb _ _ _ (pp _ _ _ fun _ => rfl) rfl)) (bb _ _ _ (bb _ _ _ (pp _ _ _ fun _ => rfl) rfl) (pp _ _ _ fun _ => rfl)))
theorem block_text (kind : Int) (w : PcD) (n : Nat) (deep : Int) (s : PsD) : (blockR kind w n deep s).v.text = [] := by
 rw [blockR_eq]
 have bb : ∀ (c : Bool) (a b : PRes NdD), a.v.text = [] → b.v.text = [] → (bif c then a else b).v.text = [] := fun c a b h1 h2 => by cases c <;> assumption
 have aa : ∀ {α : Type} (r : PRes α) (f : α → PsD → PRes NdD), (f r.v r.s).v.text = [] → (r.andThen nd0 f).v.text = [] := fun r f h => by
  unfold PRes.andThen
  cases r.bad with
  | some b => rfl
  | none => exact h
 refine aa _ _ (aa _ _ (bb _ _ _ (aa _ _ ?_) rfl))
 unfold elseR
 exact bb _ _ _ (bb _ _ _ (bb _ _ _ (aa _ _ rfl) rfl) rfl) (bb _ _ _ (aa _ _ (bb _ _ _ rfl rfl)) (bb _ _ _ rfl rfl))
theorem one_ok {deep : Int} {out : List NdD} {x : ItemD} {s : PsD} (hs : okS s) (hx : okIt x) (hd : s.defs.length + s.items.length + 1 ≤ 65536) (ho : OkOut out (s.items.length + 1)) : OneOk s (oneR deep out x s) := by
 have hsm := hs.2.1
 have hxl := hx.1
 unfold oneR
 refine one_bif (fun _ => one_then (fun hb => ?_)) (fun _ => one_then (fun _ => ?_))
 · intro _ _
   have h1 := stp_text hs out x
   refine ⟨h1.1, h1.2.1, ?_⟩
   refine OkOut.le (L := s.items.length) ?_ h1.2.1
   show OkOut (textP out x s).v s.items.length
   unfold textP at hb ⊢
   cases hc : decide (0 < out.length) && (lastN out).kind == 1 with
   | true =>
    simp only [cond_true]
    show OkOut (out.set (out.length - 1) { lastN out with text := (lastN out).text ++ x.text }) s.items.length
    refine ⟨by rw [List.length_set]; have := ho.1; omega, fun n hn => ?_⟩
    rw [Bool.and_eq_true, decide_eq_true_eq] at hc
    have hmem : lastN out ∈ out := by
     unfold lastN
     have hi : out.length - 1 < out.length := by omega
     simp only [List.getD_eq_getElem?_getD, List.getElem?_eq_getElem hi, Option.getD_some]
     exact List.getElem_mem hi
    have hl := ho.2 _ hmem
    rcases List.mem_or_eq_of_mem_set hn with h | rfl
    · have := ho.2 _ h; omega
    · show ((lastN out).text ++ x.text).length + _ ≤ _
      rw [List.length_append]; omega
   | false =>
    rw [hc] at hb
    simp only [cond_false] at hb ⊢
    obtain ⟨_, h2⟩ := at_none hb
    rw [h2]
    exact ho.snoc (by show x.text.length + _ ≤ _; omega)
 · rw [words_it]
   generalize (wordsP x s).v = w
   refine one_bif (fun _ => one_bif (fun _ => fun _ h => by simp [psOk] at h) (fun _ => one_bad)) (fun _ => one_bif (fun _ => one_bif (fun _ => one_then (fun _ => ?_)) (fun _ => one_bad)) (fun _ => one_bif (fun _ => one_then (fun _ => ?_)) (fun _ => one_then (fun _ => ?_))))
   · have h1 := stp_defineR hs hd w
     exact fun _ _ => ⟨h1.1, h1.2.1, ho.le (Nat.le_succ_of_le h1.2.1)⟩
   · have h1 := stp_blockR hs (3 + kindN w.head) w 1 deep
     have ht := block_text (3 + kindN w.head) w 1 deep s
     exact fun _ _ => ⟨h1.1, h1.2.1, (ho.snoc (by rw [ht]; show 0 + _ ≤ _; omega)).le h1.2.1⟩
   · have h1 := stp_single hs w
     have ht := single_text w s
     exact fun _ _ => ⟨h1.1, h1.2.1, (ho.snoc (by rw [ht]; show 0 + _ ≤ _; omega)).le h1.2.1⟩
def ndEnd (U : Obj3) (deep : Int) (r : LoopR) (e : AExit) (ws : List AVal) (bs : List (List AVal)) (H : Heap) : Prop := H = hpS U r.s ++ ndOG r.v.1 ∧ match r.bad with
 | some b => e = .panic (fltS b.1 b.2) ∧ ws = vsP deep ∧ bs = [[]]
 | none => match r.v.2 with
  | some w => e = .ret ∧ ws = [.ptr (.hp 4) 0, .int .i64 deep, ndOV r.v.1, .ptr (.tmp 5) 0, ndOV r.v.1] ∧ bs = [encPc w]
  | none => e = .exit 0 ∧ ws = [.ptr (.hp 4) 0, .int .i64 deep, .undef, .ptr (.tmp 5) 0, ndOV r.v.1] ∧ bs = [pcZ]
theorem nd_stop (m : Nat) (U : Obj3) (deep : Int) (out : List NdD) (s : PsD) (e : s.items = []) (D : Dfs) (k : Kont) : ndTurn m (stN U deep out s D) k = k (.exit 0) (stL 109 [0,1,4,5,6] [.ptr (.hp 4) 0, .int .i64 deep, .undef, .ptr (.tmp 5) 0, ndOV out] [5] [pcZ] (hpS U s ++ ndOG out) D) := by
 cases out with
 | nil =>
  refine (nd_step0 (okNl m) (okDf m) okSg (okBk m) U.1 U.2.1 U.2.2 s.items (s.defs.map encDf) s.ver s.left s.size deep D k).trans ?_
  simp only [e, List.length_nil, dF (show ¬ ((0 : Nat) : Int) > 0 by omega), cond_false]
  unfold hpS
  rw [e]
  rfl
 | cons c t =>
  refine (nd_step1 (okNl m) (okDf m) okSg (okBk m) U.1 U.2.1 U.2.2 s.items (s.defs.map encDf) s.ver s.left s.size deep ((c :: t).map encNd) t.length D k).trans ?_
  simp only [e, List.length_nil, dF (show ¬ ((0 : Nat) : Int) > 0 by omega), cond_false]
  unfold hpS
  rw [e]
  rfl
theorem nd_runs (m : Nat) (U : Obj3) (hU : okU U) (deep : Int) (hd0 : 0 ≤ deep) (hd1 : deep ≤ 100) : ∀ (n : Nat) (s : PsD) (out : List NdD), s.items.length ≤ n → s.items.length ≤ m → okS s → OkOut out s.items.length →
 ∃ e vs bs H ws, SubTL vs ws ∧ ndEnd U deep (loopR deep out s) e ws bs H ∧ LoopRuns (ndTurn m) 109 [0,1,5,6] [5] [0,1,4,5,6] [5] [.ptr (.hp 4) 0, .int .i64 deep, .ptr (.tmp 5) 0, ndOV out] [pcZ] (hpS U s ++ ndOG out) e vs bs H
 | n, s, out, hn, hm, hs, ho => by
  cases e : s.items with
  | nil =>
   refine ⟨_, _, _, _, _, .refl _, ?_, LoopRuns.stop (by simp) (fun D k => nd_stop m U deep out s e D k)⟩
   rw [loopR_nil e]
   exact ⟨rfl, rfl, rfl, rfl⟩
  | cons x r =>
   cases n with
   | zero => rw [e] at hn; simp at hn
   | succ n =>
   have hl : s.items.length = r.length + 1 := by rw [e]; rfl
   obtain ⟨hs1, hx, hdf⟩ := okS_pop hs e
   have hc : CtxN m U s x r deep := ⟨hU, hs, e, by omega, hd0, hd1⟩
   have hrd : RndOk U deep (fun D k => ndTurn m (stN U deep out s D) k) (oneR deep out x { s with items := r }) := by
    cases out with
    | nil => exact nd_rd0 m U s x r deep hc
    | cons c t => exact nd_rd1 m U s x r deep hc c t (by rw [hl] at ho; exact ho)
   have hone := one_ok (deep := deep) (out := out) hs1.1 hx hdf (by show OkOut out (r.length + 1); rw [hl] at ho; exact ho)
   rw [loopR_cons e, piece_one]
   revert hrd hone
   generalize oneR deep out x { s with items := r } = q
   intro hrd hone
   obtain ⟨qb, ⟨out2, qw⟩, s2⟩ := q
   cases qb with
   | some b =>
    obtain ⟨vs, h1, h2⟩ := hrd
    exact ⟨_, _, _, _, _, h1, ⟨rfl, rfl, rfl, rfl⟩, LoopRuns.stop (by simp) h2⟩
   | none =>
    cases qw with
    | some w => exact ⟨_, _, _, _, _, .refl _, ⟨rfl, rfl, rfl, rfl⟩, LoopRuns.stop (by simp) hrd⟩
    | none =>
     obtain ⟨g1, g2, g3⟩ := hone rfl rfl
     replace g2 : s2.items.length ≤ r.length := g2
     obtain ⟨e', vs, bs, H, ws, i1, i2, i3⟩ := nd_runs m U hU deep hd0 hd1 n s2 out2 (by omega) (by omega) g1 g3
     exact ⟨e', vs, bs, H, ws, i1, i2, LoopRuns.step hrd i3⟩
end Go.Mu
namespace Go.Mu
open Go Go.Proofs
theorem outK_eq (out : List NdD) (F : AVal → Heap → Ans) : outK out F = F (ndOV out) (ndOG out) := by
 cases out <;> rfl
theorem mkL_okW {α : Type} {turn : St → Kont → Ans} {n : Nat} {l m lx mx : List Nat} {dec : List AVal → List (List AVal) → Heap → α} {ok : α → Prop} {ev : α → List AVal} {eb : α → List (List AVal)} {eh : α → Heap} {post : α → (AExit → List AVal → List (List AVal) → Heap → Ans) → Ans}
 (h : ∀ a, ok a → ∃ e vs bs H ws, SubTL vs ws ∧ (∀ k, post a k = k e ws bs H) ∧ LoopRuns turn n l m lx mx (ev a) (eb a) (eh a) e vs bs H) : SpOK turn n l m lx mx (mkL dec ok ev eb eh post) := by
 intro vs bs H k out ho
 unfold mkL at ho
 rw [Bool.cond_eq_ite] at ho
 split at ho
 case isFalse => simp at ho
 rename_i hc
 obtain ⟨h1, h2, h3, h4⟩ := of_tst hc
 generalize dec vs bs H = a at *
 obtain ⟨e, vs', bs', H', ws, h0, h5, h6⟩ := h a h1
 rw [h5] at ho
 subst h3 h4
 exact ⟨ev a, e, vs', bs', H', ws, h2, h6, h0, ho⟩
theorem ndL_s (deep : Int) (s : PsD) : ndL deep (encIts s.items) (s.defs.map encDf) s.ver s.left s.size = loopR deep [] s := by
 unfold ndL; rw [decSt_e]
theorem ndSp_ok (m : Nat) : SpOK (ndTurn m) 109 [0,1,5,6] [5] [0,1,4,5,6] [5] (ndSp (okNl m)) := mkL_okW fun a h => by
 obtain ⟨x, G, deep⟩ := a
 obtain ⟨⟨U, s, hx, hs, hm, hU⟩, hd0, hd1⟩ := h
 replace hx : x = encX U s := hx
 subst hx
 replace hd0 : 0 ≤ deep := hd0
 replace hd1 : deep ≤ 100 := hd1
 obtain ⟨e, vs, bs, H, ws, h1, h2, h3⟩ := nd_runs m U hU deep hd0 hd1 s.items.length s [] (Nat.le_refl _) (by omega) hs ⟨by have := hs.2.1; simp only [List.length_nil]; omega, fun n hn => by cases hn⟩
 have h3 : LoopRuns (ndTurn m) 109 [0,1,5,6] [5] [0,1,4,5,6] [5] [.ptr (.hp 4) 0, .int .i64 deep, .ptr (.tmp 5) 0, nilList] [pcZ] (encX U s).heap e vs bs H := h3
 refine ⟨e, vs, bs, H, ws, h1, fun k => ?_, h3⟩
 unfold ndPost
 have eL : ndL deep (encX U s).it (encX U s).rows (encX U s).ver (encX U s).left (encX U s).size = loopR deep [] s := ndL_s deep s
 simp only [eL, outK_eq]
 unfold ndEnd at h2
 generalize loopR deep [] s = r at h2 ⊢
 obtain ⟨rb, ⟨out, rw_⟩, s2⟩ := r
 cases rb with
 | some b =>
  obtain ⟨rfl, rfl, rfl, rfl⟩ := h2
  rfl
 | none =>
  cases rw_ with
  | some w =>
   obtain ⟨rfl, rfl, rfl, rfl⟩ := h2
   rfl
  | none =>
   obtain ⟨rfl, rfl, rfl, rfl⟩ := h2
   rfl
theorem layNl_ok {m : Nat} (h : (layN0 (okDf m) okSg (okBk m)).OK Tryz.prog) : (layNl (okNl m) (okDf m) okSg (okBk m)).OK Tryz.prog := h.loop1 (id := 2) (by kernel_rfl) (by kernel_rfl) (by kernel_rfl) (ndSp_ok m)
theorem fz_defs (ds : List DfD) (k : Nat) (rows : List (List AVal)) (u : Nat) : (ds.map encDf).map (fun r => r.map (fzV k rows u 6)) = ds.map encDf := by
 rw [List.map_map]
 rfl
theorem fz_hp {U : Obj3} (hU : okU U) (s : PsD) (rows : List (List AVal)) (u : Nat) : (hpS U s).map (fzO 5 rows u) = hpS U s := by
 obtain ⟨a, b, rfl⟩ := hU
 show [_, _, _, Obj.arr 2 ((s.defs.map encDf).map (fun r => r.map (fzV 5 rows u 6))) s.ver, _] = _
 rw [fz_defs]
 rfl
theorem nds_pure (l : List NdD) : (l.map encNd).all (fun r => r.all isPure) = true := by
 rw [List.all_eq_true]
 intro r hr
 obtain ⟨n, _, rfl⟩ := List.mem_map.1 hr
 rfl
theorem nds_sub (l : List NdD) : Sub (.list false (l.map encNd).length (fun i => (l.map encNd).getD (0 + i) [])) (encNds false l) := by
 rw [List.length_map]
 refine Sub.list (fun h => h) (fun i hi => ?_)
 have : (l.map encNd).getD (0 + i) [] = encNd (l.getD i nd0) := by
  rw [Nat.zero_add]
  simp only [List.getD_eq_getElem?_getD, List.getElem?_map, List.getElem?_eq_getElem hi, Option.map_some, Option.getD_some]
 rw [this]
 exact .refl _
theorem leafN {L : Lay} (h : L.OK Tryz.prog) {f : FuncId} {xs : List AVal} {U : Obj3} (hU : okU U) {s t : PsD} (out : List NdD) (w : PcD) {p : AVal} (hz : ∀ rows u, fzV 5 rows u 5 p = p) (hr1 : refsD 6 5 (.tuple [nilList, p]) = true) (hp : Sub p (pieceV w))
 (hr : ∀ k, iFun Tryz.prog (L.hd Tryz.prog) L.fhs 0 f xs (hpS U s) k = k (.ret (.tuple [ndOV out, p]) (hpS U t ++ ndOG out))) :
 CallOK Tryz.prog f xs (hpS U s) (.ret (nodesV (out, w)) (hpS U t)) := by
 cases out with
 | nil =>
  refine (leafR (T := []) h hU hr1 hr).sub (.refl _) ⟨Sub.tuple (.cons (Sub.list (fun h => by cases h) (fun i hi => by omega)) (.cons hp .nil)), rfl⟩
 | cons c t' =>
  have k1 := h.call hr
  have k2 := k1.meltR (Nat.le_refl 5) (nds_pure (c :: t'))
  have e1 : fzV (hpS U t).length ((c :: t').map encNd) t'.length 6 (.tuple [ndOV (c :: t'), p]) = .tuple [.list false ((c :: t').map encNd).length (fun i => ((c :: t').map encNd).getD (0 + i) []), p] := by
   show AVal.tuple [if (5 : Nat) = 5 then (if t'.length = t'.length ∧ 0 + ((c :: t').map encNd).length ≤ ((c :: t').map encNd).length then .list false ((c :: t').map encNd).length (fun i => ((c :: t').map encNd).getD (0 + i) []) else .undef) else .own 5 0 ((c :: t').map encNd).length t'.length false, fzV 5 ((c :: t').map encNd) t'.length 5 p] = _
   rw [if_pos rfl, if_pos ⟨rfl, by omega⟩, hz]
  rw [e1] at k2
  have e2 : (hpS U t).map (fzO (hpS U t).length ((c :: t').map encNd) t'.length) = hpS U t := fz_hp hU t _ _
  rw [e2] at k2
  exact k2.sub (.refl _) ⟨Sub.tuple (.cons (nds_sub (c :: t')) (.cons hp .nil)), rfl⟩
theorem nd_call (m : Nat) (U : Obj3) (hU : okU U) (s : PsD) (hs : okS s) (hm : s.items.length < m + 1) (deep : Int) (hd0 : 0 ≤ deep) (hd1 : deep ≤ 100) (hL : (layNl (okNl m) (okDf m) okSg (okBk m)).OK Tryz.prog) :
 ∃ o, (∀ k : Out → Ans, pOut (nodesR deep s) nodesV (hpS U) k = k o) ∧ CallOK Tryz.prog 13 [.ptr (.hp 4) 0, .int .i64 deep] (hpS U s) o := by
 have key := fun k => nd_fun (okNl m) (okDf m) okSg (okBk m) U.1 U.2.1 U.2.2 (encIts s.items) (s.defs.map encDf) s.ver s.left s.size deep k
 change ∀ k, iFun Tryz.prog ((layNl (okNl m) (okDf m) okSg (okBk m)).hd Tryz.prog) (layNl (okNl m) (okDf m) okSg (okBk m)).fhs 0 13 [.ptr (.hp 4) 0, .int .i64 deep] (hpS U s) k = _ at key
 replace key := keyT key (tst_true ⟨⟨⟨U, s, rfl, hs, hm, hU⟩, hd0, hd1⟩, .refl _, rfl, rfl⟩)
 simp only [ndL_s] at key
 unfold nodesR
 simp only [pOut_then]
 generalize loopR deep [] s = r at key ⊢
 obtain ⟨rb, ⟨out, ow⟩, s2⟩ := r
 cases rb with
 | some b =>
  simp only [Option.isSome_some, cond_true, Option.getD_some] at key
  refine ⟨_, fun k => rfl, leafP (T := ndOG out) (t := s2) hL hU rfl (fun k => (key k).trans ?_)⟩
  cases out <;> rfl
 | none =>
 simp only [Option.isSome_none, cond_false] at key
 cases ow with
 | some w =>
  simp only [Option.isSome_some, cond_true, Option.getD_some] at key
  refine ⟨_, fun k => rfl, leafN (t := s2) hL hU out w (p := .agg (encPc w)) (fun _ _ => rfl) rfl (.refl _) (fun k => (key k).trans ?_)⟩
  cases out <;> rfl
 | none =>
  simp only [Option.isSome_none, cond_false] at key
  show ∃ o, (∀ k : Out → Ans, pOut (bif decide (deep = 0) then psOk (out, pc0) s2 else psBad (out, pc0) s2.left 8 s2) nodesV (hpS U) k = k o) ∧ _
  have ed : (deep == 0) = decide (deep = 0) := by
   rw [Bool.eq_iff_iff]; simp only [beq_iff_eq, decide_eq_true_eq]
  simp only [ed] at key
  cases h0 : decide (deep = 0) with
  | true =>
   simp only [h0, Bool.not_true, cond_false] at key
   refine ⟨_, fun k => rfl, leafN (t := s2) hL hU out pc0 (p := .agg pcZ) (fun _ _ => rfl) rfl (Sub.agg (.cons (Sub.list (fun h => by cases h) (fun i hi => by omega)) (.refl _))) (fun k => (key k).trans ?_)⟩
   cases out <;> rfl
  | false =>
   simp only [h0, Bool.not_false, cond_true] at key
   refine ⟨_, fun k => rfl, leafP (T := ndOG out) (t := s2) hL hU rfl (fun k => (key k).trans ?_)⟩
   cases out <;> rfl
end Go.Mu
namespace Go.Mu
open Go Go.Proofs
theorem frm {α : Type} {r : PRes α} {f : α → AVal} {U : Obj3} {s : PsD} (hU : okU U) {g : FuncId} {xs : List AVal} (hx : ∀ x ∈ xs, refsD 6 5 x = true) {G : Heap} (hG : okG G)
 (h : ∃ o, (∀ k : Out → Ans, pOut r f (hpS U) k = k o) ∧ CallOK Tryz.prog g xs (hpS U s) o) : ∃ o, (∀ k : Out → Ans, pOut r f (fun t => hpS U t ++ G) k = k o) ∧ CallOK Tryz.prog g xs (hpS U s ++ G) o := by
 obtain ⟨o, h1, h2⟩ := h
 have h3 := h1 some
 cases hb : r.bad with
 | some b =>
  unfold pOut at h3
  rw [hb] at h3
  simp only [Option.isSome_some, cond_true, Option.some.injEq] at h3
  subst h3
  exact ⟨_, fun k => by unfold pOut; rw [hb]; rfl, h2.frameP rfl hx (refs_hp hU s) G hG⟩
 | none =>
  unfold pOut at h3
  rw [hb] at h3
  simp only [Option.isSome_none, cond_false, Option.some.injEq] at h3
  subst h3
  exact ⟨_, fun k => by unfold pOut; rw [hb]; rfl, h2.frame rfl hx (refs_hp hU s) G hG⟩
theorem layPw1_ok : layPw1.OK Tryz.prog := Lay.nil_ok.addF wordsTold_ok
theorem wds_sub2 (x : ItemD) (h : 0 ≤ x.at_) : Sub (.list false (wordsOf x.text).length (fun i => encWd x.at_ ((wordsOf x.text).getD i wd0))) (encWqs false ((wordsOf x.text).map (atW x.at_))) := by
 show Sub _ (.list false ((wordsOf x.text).map (atW x.at_)).length _)
 rw [List.length_map]
 refine Sub.list (fun h => h) (fun i hi => ?_)
 have e : ((wordsOf x.text).map (atW x.at_)).getD i wd0 = atW x.at_ ((wordsOf x.text).getD i wd0) := by
  simp only [List.getD_eq_getElem?_getD, List.getElem?_map, List.getElem?_eq_getElem hi, Option.map_some, Option.getD_some]
 rw [e]
 have e2 : encWd x.at_ ((wordsOf x.text).getD i wd0) = encWq (atW x.at_ ((wordsOf x.text).getD i wd0)) := by
  unfold encWd encWq atW
  have : x.at_ + (((wordsOf x.text).getD i wd0).at_ : Int) = ((x.at_.toNat + ((wordsOf x.text).getD i wd0).at_ : Nat) : Int) := by omega
  rw [this]
 rw [e2]
 exact .refl _
theorem pw_call (x : ItemD) (H : Heap) (hx : okIt x) : ∃ o, (∀ k : Out → Ans, pOut (wdN x) pieceV (fun _ => H) k = k o) ∧ CallOK Tryz.prog 21 [.ptr (.hp 4) 0, .agg (encItem x)] H o := by
 obtain ⟨h1, h2, h3⟩ := hx
 have key := fun k => wd_fun x H k
 have c0 : decide (x.text.length ≤ 1073741824 ∧ 0 ≤ x.at_ ∧ x.at_ ≤ 1099511627776) = true := dT ⟨by omega, h2, by omega⟩
 replace key := keyT key c0
 unfold wdN wordsP wdsE wdsA wdsL
 cases hs : (wordsE x.text).isSome with
 | true =>
  simp only [hs, cond_true] at key ⊢
  cases he : wdErr x.text == 0 with
  | false =>
   simp only [he, Bool.not_false, cond_true, cond_false] at key ⊢
   exact ⟨_, fun k => rfl, layPw1_ok.call key⟩
  | true =>
   simp only [he, Bool.not_true, cond_true, cond_false] at key ⊢
   exact ⟨_, fun k => rfl, layPw1_ok.call key⟩
 | false =>
  simp only [hs, cond_false] at key ⊢
  have hl : ((wordsOf x.text).map (atW x.at_)).length = (wordsOf x.text).length := List.length_map _
  show ∃ o, (∀ k : Out → Ans, pOut (bif decide (0 < ((wordsOf x.text).map (atW x.at_)).length) then _ else _ : PRes PcD) pieceV (fun _ => H) k = k o) ∧ _
  by_cases h0 : 0 < (wordsOf x.text).length
  case neg =>
   simp only [hl, dF h0, dF (show ¬ ((wordsOf x.text).length : Int) > 0 by omega), Bool.not_false, cond_true, cond_false] at key ⊢
   exact ⟨_, fun k => rfl, layPw1_ok.call key⟩
  simp only [hl, dT h0, dT (show ((wordsOf x.text).length : Int) > 0 by omega), dT (show (0 : Int) < ((wordsOf x.text).length : Int) by omega), Bool.not_true, cond_true, cond_false] at key ⊢
  have e0 : ((wordsOf x.text).map (atW x.at_)).getD 0 wd0 = atW x.at_ ((wordsOf x.text).getD 0 wd0) := by
   simp only [List.getD_eq_getElem?_getD, List.getElem?_map, List.getElem?_eq_getElem h0, Option.map_some, Option.getD_some]
  unfold headW
  rw [e0]
  have ek : (atW x.at_ ((wordsOf x.text).getD 0 wd0)).kind = ((wordsOf x.text).getD 0 wd0).kind := rfl
  have et : (atW x.at_ ((wordsOf x.text).getD 0 wd0)).text = ((wordsOf x.text).getD 0 wd0).text := rfl
  rw [ek, et]
  cases hk : ((wordsOf x.text).getD 0 wd0).kind == 1 with
  | true =>
   simp only [hk, cond_true] at key ⊢
   exact ⟨_, fun k => rfl, (layPw1_ok.call key).sub (.refl _) ⟨Sub.agg (.cons (wds_sub2 x h2) (.refl _)), rfl⟩⟩
  | false =>
   simp only [hk, cond_false] at key ⊢
   exact ⟨_, fun k => rfl, (layPw1_ok.call key).sub (.refl _) ⟨Sub.agg (.cons (wds_sub2 x h2) (.refl _)), rfl⟩⟩
theorem pwTold_ok : ∀ xs H k out, pwTold xs H k = some out → ∃ o, CallOK Tryz.prog 21 xs H o ∧ k o = some out := mkF_ok fun a h => pw_call a.x a.H h
theorem ndTold_ok {m : Nat} (hL : (layNl (okNl m) (okDf m) okSg (okBk m)).OK Tryz.prog) : ∀ xs H k out, ndTold (okNd (m + 1)) xs H k = some out → ∃ o, CallOK Tryz.prog 13 xs H o ∧ k o = some out := mkF_ok fun a h => by
 obtain ⟨x, G, deep⟩ := a
 obtain ⟨⟨U, s, hx, hs, hm, hU⟩, hG, hd0, hd1⟩ := h
 replace hx : x = encX U s := hx
 subst hx
 have := frm hU (by intro x hx; simp only [List.mem_cons, List.not_mem_nil, or_false] at hx; rcases hx with rfl | rfl <;> rfl) hG (nd_call m U hU s hs hm deep hd0 hd1 hL)
 have eN : ndN deep (encX U s).it (encX U s).rows (encX U s).ver (encX U s).left (encX U s).size = nodesR deep s := ndN_s deep s
 simp only [eN]
 exact this
theorem sgTold_ok : ∀ xs H k out, sgTold okSg xs H k = some out → ∃ o, CallOK Tryz.prog 26 xs H o ∧ k o = some out := mkF_ok fun a h => by
 obtain ⟨x, G, ws, head, at_⟩ := a
 obtain ⟨⟨m, U, s, hx, hs, hm, hU⟩, hG, l, hl, hw⟩ := h
 replace hx : x = encX U s := hx
 replace hl : ws = encWqs false l := hl
 subst hx hl
 have := frm hU (by intro x hx; simp only [List.mem_cons, List.not_mem_nil, or_false] at hx; rcases hx with rfl | rfl <;> rfl) hG (sg_call U s ⟨l, head, at_⟩ hw hs.2.2.1)
 have eN : sgN (encWqs false l) head at_ (encX U s).it (encX U s).rows (encX U s).ver (encX U s).left (encX U s).size = singleP ⟨l, head, at_⟩ s := sgN_e _ _ _ _ _ _ _ _
 simp only [eN]
 exact this
theorem dfTold_ok {m : Nat} (hL : (layDf (okNd m)).OK Tryz.prog) : ∀ xs H k out, dfTold (okDf m) xs H k = some out → ∃ o, CallOK Tryz.prog 24 xs H o ∧ k o = some out := mkF_ok fun a h => by
 obtain ⟨x, G, ws, head, at_⟩ := a
 obtain ⟨⟨U, s, hx, hs, hm, hU, hdf⟩, hG, l, hl, hw⟩ := h
 replace hx : x = encX U s := hx
 replace hl : ws = encWqs false l := hl
 subst hx hl
 have := frm hU (by intro x hx; simp only [List.mem_cons, List.not_mem_nil, or_false] at hx; rcases hx with rfl | rfl <;> rfl) hG (df_call m U hU s hs hm hdf ⟨l, head, at_⟩ hw hL)
 have eN : dfN (encWqs false l) head at_ (encX U s).it (encX U s).rows (encX U s).ver (encX U s).left (encX U s).size = defineR ⟨l, head, at_⟩ s := dfN_e _ _ _ _ _ _ _ _
 simp only [eN]
 exact this
theorem bkTold_ok {m : Nat} (hL : (layBk (okNd (m + 1)) (okBk m)).OK Tryz.prog) : ∀ xs H k out, bkTold (okBk (m + 1)) xs H k = some out → ∃ o, CallOK Tryz.prog 25 xs H o ∧ k o = some out := mkF_ok fun a h => by
 obtain ⟨x, G, kind, ws, head, at_, n, deep⟩ := a
 obtain ⟨⟨U, s, hx, hs, hm, hU⟩, hG, ⟨l, hl, hw, hn0, hn1⟩, hd0, hd1⟩ := h
 replace hx : x = encX U s := hx
 replace hl : ws = encWqs false l := hl
 replace hn0 : 0 ≤ n := hn0
 replace hn1 : n.toNat ≤ l.length := hn1
 subst hx hl
 obtain ⟨j, rfl⟩ : ∃ j : Nat, n = (j : Int) := ⟨n.toNat, by omega⟩
 rw [Int.toNat_natCast] at hn1
 have hc : ∃ o, (∀ k : Out → Ans, pOut (blockR kind ⟨l, head, at_⟩ j deep s) ndV (hpS U) k = k o) ∧ CallOK Tryz.prog 25 [.ptr (.hp 4) 0, .int .i64 kind, .agg (encPc ⟨l, head, at_⟩), .int .i64 (j : Int), .int .i64 deep] (hpS U s) o := by
  obtain ⟨o, ho⟩ := pOut_one (blockR kind ⟨l, head, at_⟩ j deep s) ndV (hpS U)
  exact ⟨o, ho, hL.call (fun k => (bk_res m U hU s hs hm kind ⟨l, head, at_⟩ hw j hn1 deep hd0 hd1 k).trans (ho k))⟩
 have := frm hU (by intro x hx; simp only [List.mem_cons, List.not_mem_nil, or_false] at hx; rcases hx with rfl | rfl | rfl | rfl | rfl <;> rfl) hG hc
 have eN : bkN kind (encWqs false l) head at_ (j : Int) deep (encX U s).it (encX U s).rows (encX U s).ver (encX U s).left (encX U s).size = blockR kind ⟨l, head, at_⟩ j deep s := (bkN_e _ _ _ _ _ _ _ _ _ _ _).trans (by rw [Int.toNat_natCast]; rfl)
 simp only [eN]
 exact this
theorem all_told : ∀ m : Nat, (∀ xs H k out, bkTold (okBk m) xs H k = some out → ∃ o, CallOK Tryz.prog 25 xs H o ∧ k o = some out) ∧ (∀ xs H k out, dfTold (okDf m) xs H k = some out → ∃ o, CallOK Tryz.prog 24 xs H o ∧ k o = some out)
 | 0 => ⟨mkF_ok fun a h => by obtain ⟨⟨U, s, hx, hs, hm, hU⟩, _⟩ := h; omega, mkF_ok fun a h => by obtain ⟨⟨U, s, hx, hs, hm, hU⟩, _⟩ := h; omega⟩
 | m + 1 => by
  obtain ⟨hb, hd⟩ := all_told m
  have h0 : (layN0 (okDf m) okSg (okBk m)).OK Tryz.prog := ((((Lay.nil_ok.addF pwTold_ok).addF ixsTold_ok).addF hd).addF sgTold_ok).addF hb
  have hn := ndTold_ok (layNl_ok h0)
  exact ⟨bkTold_ok ((((Lay.nil_ok.addF parTold_ok).addF hn).addF hb).addN (by kernel_rfl)), dfTold_ok (((layIx2_ok.addF oNameTold_ok).addF hn).addN (by kernel_rfl))⟩
theorem nodes_told (m : Nat) : ∀ xs H k out, ndTold (okNd (m + 1)) xs H k = some out → ∃ o, CallOK Tryz.prog 13 xs H o ∧ k o = some out :=
 ndTold_ok (layNl_ok (((((Lay.nil_ok.addF pwTold_ok).addF ixsTold_ok).addF (all_told m).2).addF sgTold_ok).addF (all_told m).1))
end Go.Mu
namespace Go.Mu
open Go Go.Proofs
noncomputable def layPar (okN : NdA → Prop) : Lay := ((Lay.nil.addF 11 itemsTold).addF 13 (ndTold okN)).addL 6 { heap := [2, 3, 4, 26], own := [24] }
theorem ps_fun (okN : NdA → Prop) (s : Oc) (k : Out → Ans) : iFun Tryz.prog ((layPar okN).hd Tryz.prog) (layPar okN).fhs 0 6 [.str s] [] k = (
 let n0 : Int := (↑s.length : Int);
 let m1 : Nat := (ndN 0 (AVal.list false (itemsOf s).length fun (i : Nat) => encItem ((itemsOf s).getD i (ItemD.mk 0 [] 0))) [[AVal.str [], AVal.list true 0 fun (x : Nat) => []]] 0 n0 0).s.ver;
 let m2 : Nat := (List.map encDf (ndN 0 (AVal.list false (itemsOf s).length fun (i : Nat) => encItem ((itemsOf s).getD i (ItemD.mk 0 [] 0))) [[AVal.str [], AVal.list true 0 fun (x : Nat) => []]] 0 n0 0).s.defs).length;
 let c3 : Bool := m1 == m1;
 let z0 := [AVal.ptr (Oid.hp 4) 0, AVal.int .i64 0];
  bif decide (16384 < s.length) then k (Out.ret (AVal.tuple [AVal.list true 0 fun (x : Nat) => [], AVal.int .i64 0, AVal.int .i64 5]) [Obj.var [AVal.list true 0 fun (x : Nat) => []], Obj.var [AVal.int .i64 0], Obj.var [AVal.int .i64 5]]) else bif itBad s then bif sameV (AVal.int .i64 (↑(itPl s) : Int)) (AVal.int .i64 (↑(itPl s) : Int)) && true && true && true then k (Out.ret (AVal.tuple [AVal.list true 0 fun (x : Nat) => [], AVal.int .i64 (↑(itPl s) : Int), AVal.int .i64 8]) [Obj.var [AVal.list true 0 fun (x : Nat) => []], Obj.var [AVal.int .i64 (↑(itPl s) : Int)], Obj.var [AVal.int .i64 8]]) else none else bif tst (okN (NdA.mk (PsX.mk (Obj.var [AVal.list true 0 fun (x : Nat) => []]) (Obj.var [AVal.int .i64 n0]) (Obj.var [AVal.int .i64 0]) (AVal.list false (itemsOf s).length fun (i : Nat) => encItem ((itemsOf s).getD i (ItemD.mk 0 [] 0))) [[AVal.str [], AVal.list true 0 fun (x : Nat) => []]] 0 n0 0) (List.drop 5 [Obj.var [AVal.list true 0 fun (x : Nat) => []], Obj.var [AVal.int .i64 n0], Obj.var [AVal.int .i64 0], Obj.arr 2 [[AVal.str [], AVal.list true 0 fun (x : Nat) => []]] 0, Obj.var [AVal.list false (itemsOf s).length fun (i : Nat) => encItem ((itemsOf s).getD i (ItemD.mk 0 [] 0)), AVal.own 3 0 1 0 false, AVal.int .i64 n0, AVal.int .i64 0]]) 0) ∧ SubL z0 z0 ∧ [Obj.var [AVal.list true 0 fun (x : Nat) => []], Obj.var [AVal.int .i64 n0], Obj.var [AVal.int .i64 0], Obj.arr 2 [[AVal.str [], AVal.list true 0 fun (x : Nat) => []]] 0, Obj.var [AVal.list false (itemsOf s).length fun (i : Nat) => encItem ((itemsOf s).getD i (ItemD.mk 0 [] 0)), AVal.own 3 0 1 0 false, AVal.int .i64 n0, AVal.int .i64 0]] = [Obj.var [AVal.list true 0 fun (x : Nat) => []], Obj.var [AVal.int .i64 n0], Obj.var [AVal.int .i64 0], Obj.arr 2 [[AVal.str [], AVal.list true 0 fun (x : Nat) => []]] 0, Obj.var [AVal.list false (itemsOf s).length fun (i : Nat) => encItem ((itemsOf s).getD i (ItemD.mk 0 [] 0)), AVal.own 3 0 1 0 false, AVal.int .i64 n0, AVal.int .i64 0]]) then bif (ndN 0 (AVal.list false (itemsOf s).length fun (i : Nat) => encItem ((itemsOf s).getD i (ItemD.mk 0 [] 0))) [[AVal.str [], AVal.list true 0 fun (x : Nat) => []]] 0 n0 0).bad.isSome then k (Out.ret (AVal.tuple [AVal.list true 0 fun (x : Nat) => [], AVal.int .i64 ((ndN 0 (AVal.list false (itemsOf s).length fun (i : Nat) => encItem ((itemsOf s).getD i (ItemD.mk 0 [] 0))) [[AVal.str [], AVal.list true 0 fun (x : Nat) => []]] 0 n0 0).bad.getD (0, 0)).fst, AVal.int .i64 ((ndN 0 (AVal.list false (itemsOf s).length fun (i : Nat) => encItem ((itemsOf s).getD i (ItemD.mk 0 [] 0))) [[AVal.str [], AVal.list true 0 fun (x : Nat) => []]] 0 n0 0).bad.getD (0, 0)).snd]) [Obj.var [AVal.list true 0 fun (x : Nat) => []], Obj.var [AVal.int .i64 ((ndN 0 (AVal.list false (itemsOf s).length fun (i : Nat) => encItem ((itemsOf s).getD i (ItemD.mk 0 [] 0))) [[AVal.str [], AVal.list true 0 fun (x : Nat) => []]] 0 n0 0).bad.getD (0, 0)).fst], Obj.var [AVal.int .i64 ((ndN 0 (AVal.list false (itemsOf s).length fun (i : Nat) => encItem ((itemsOf s).getD i (ItemD.mk 0 [] 0))) [[AVal.str [], AVal.list true 0 fun (x : Nat) => []]] 0 n0 0).bad.getD (0, 0)).snd], Obj.arr 2 (List.map encDf (ndN 0 (AVal.list false (itemsOf s).length fun (i : Nat) => encItem ((itemsOf s).getD i (ItemD.mk 0 [] 0))) [[AVal.str [], AVal.list true 0 fun (x : Nat) => []]] 0 n0 0).s.defs) m1, Obj.var [encIts (ndN 0 (AVal.list false (itemsOf s).length fun (i : Nat) => encItem ((itemsOf s).getD i (ItemD.mk 0 [] 0))) [[AVal.str [], AVal.list true 0 fun (x : Nat) => []]] 0 n0 0).s.items, AVal.own 3 0 m2 m1 false, AVal.int .i64 (ndN 0 (AVal.list false (itemsOf s).length fun (i : Nat) => encItem ((itemsOf s).getD i (ItemD.mk 0 [] 0))) [[AVal.str [], AVal.list true 0 fun (x : Nat) => []]] 0 n0 0).s.left, AVal.int .i64 (ndN 0 (AVal.list false (itemsOf s).length fun (i : Nat) => encItem ((itemsOf s).getD i (ItemD.mk 0 [] 0))) [[AVal.str [], AVal.list true 0 fun (x : Nat) => []]] 0 n0 0).s.size]]) else bif c3 && true && decide (0 < (↑m2 : Int)) then bif c3 then bif c3 && decide (0 < m2) && true then k (Out.ret (AVal.tuple [AVal.own 3 0 m2 m1 false, AVal.int .i64 n0, AVal.int .i64 0]) [Obj.var [AVal.own 3 0 m2 m1 false], Obj.var [AVal.int .i64 n0], Obj.var [AVal.int .i64 0], Obj.arr 2 ((List.map encDf (ndN 0 (AVal.list false (itemsOf s).length fun (i : Nat) => encItem ((itemsOf s).getD i (ItemD.mk 0 [] 0))) [[AVal.str [], AVal.list true 0 fun (x : Nat) => []]] 0 n0 0).s.defs).set 0 (((List.map encDf (ndN 0 (AVal.list false (itemsOf s).length fun (i : Nat) => encItem ((itemsOf s).getD i (ItemD.mk 0 [] 0))) [[AVal.str [], AVal.list true 0 fun (x : Nat) => []]] 0 n0 0).s.defs).getD 0 []).set 1 (AVal.list false (ndN 0 (AVal.list false (itemsOf s).length fun (i : Nat) => encItem ((itemsOf s).getD i (ItemD.mk 0 [] 0))) [[AVal.str [], AVal.list true 0 fun (x : Nat) => []]] 0 n0 0).v.fst.length fun (i : Nat) => encNd ((ndN 0 (AVal.list false (itemsOf s).length fun (i : Nat) => encItem ((itemsOf s).getD i (ItemD.mk 0 [] 0))) [[AVal.str [], AVal.list true 0 fun (x : Nat) => []]] 0 (↑s.length : Int) 0).v.fst.getD i nd0)))) m1, Obj.var [encIts (ndN 0 (AVal.list false (itemsOf s).length fun (i : Nat) => encItem ((itemsOf s).getD i (ItemD.mk 0 [] 0))) [[AVal.str [], AVal.list true 0 fun (x : Nat) => []]] 0 n0 0).s.items, AVal.own 3 0 m2 m1 false, AVal.int .i64 (ndN 0 (AVal.list false (itemsOf s).length fun (i : Nat) => encItem ((itemsOf s).getD i (ItemD.mk 0 [] 0))) [[AVal.str [], AVal.list true 0 fun (x : Nat) => []]] 0 n0 0).s.left, AVal.int .i64 (ndN 0 (AVal.list false (itemsOf s).length fun (i : Nat) => encItem ((itemsOf s).getD i (ItemD.mk 0 [] 0))) [[AVal.str [], AVal.list true 0 fun (x : Nat) => []]] 0 n0 0).s.size]]) else none else none else none else none) := by kernel_rfl
end Go.Mu
namespace Go.Mu
open Go Go.Proofs
def okPl (L : Nat) (i : ItemD) : Prop := i.text.length ≤ L ∧ 0 ≤ i.at_ ∧ i.at_ ≤ (L : Int) ∧ (i.kind = 1 ∨ i.kind = 2 ∧ i.at_ + i.text.length ≤ (L : Int))
def ItG (L : Nat) (rows : List (List AVal)) : Prop := ∀ r ∈ rows, ∃ i : ItemD, r = encItem i ∧ okPl L i
theorem itG_app {L : Nat} {a b : List (List AVal)} (h : ItG L a) (g : ItG L b) : ItG L (a ++ b) := fun r hr => by
 rcases List.mem_append.1 hr with hr | hr
 · exact h r hr
 · exact g r hr
theorem itG_one {L : Nat} (i : ItemD) (h : okPl L i) : ItG L [encItem i] := fun r hr => ⟨i, by simpa using hr, h⟩
theorem flushM_g {L : Nat} {x : SpH} (h : ItG L (rowsO x.O)) (hb : (bytesOf x.rows).length ≤ L) (ha0 : 0 ≤ x.a) (ha1 : x.a ≤ (L : Int)) : ItG L (rowsO (flushM x).O) := by
 unfold flushM
 simp only [rowsO]
 cases flN x
 · exact itG_app h (itG_one ⟨1, bytesOf x.rows, x.a⟩ ⟨hb, ha0, ha1, .inl rfl⟩)
 · exact h
theorem acM_g {L : Nat} {x : SpH} (h : ItG L (rowsO x.O)) (hb : (bytesOf x.rows).length ≤ L) (ha0 : 0 ≤ x.a) (ha1 : x.a ≤ (L : Int)) (at_ : Nat) (ht : at_ + (acIn x.s at_).length ≤ L) : ItG L (rowsO (acM x at_).O) := by
 unfold acM
 have hy : ItG L (rowsO (bif trimsA (acIn x.s at_) then cutM x else x).O) ∧ (bytesOf (bif trimsA (acIn x.s at_) then cutM x else x).rows).length ≤ L ∧ (bif trimsA (acIn x.s at_) then cutM x else x).a = x.a := by
  cases trimsA (acIn x.s at_)
  · exact ⟨h, hb, rfl⟩
  · refine ⟨h, ?_, rfl⟩
    show (bytesOf (cutM x).rows).length ≤ L
    rw [cutM_t]
    exact Nat.le_trans (trimR_len _) hb
 generalize (bif trimsA (acIn x.s at_) then cutM x else x) = y at hy
 obtain ⟨h1, h2, h3⟩ := hy
 have e4 : (trimL (trimR (trimsU (trimsT (acIn x.s at_))))).length ≤ (acIn x.s at_).length := Nat.le_trans (trimL_len _) (Nat.le_trans (trimR_len _) (trimsU_len _))
 generalize trimL (trimR (trimsU (trimsT (acIn x.s at_)))) = tx at e4 ⊢
 cases rmIs x.s at_
 · show ItG L (rowsO (flushM y).O ++ [encItem ⟨2, tx, at_⟩])
   refine itG_app (flushM_g h1 h2 (by rw [h3]; exact ha0) (by rw [h3]; exact ha1)) (itG_one ⟨2, tx, at_⟩ ⟨?_, ?_, ?_, .inr ⟨rfl, ?_⟩⟩)
   · show tx.length ≤ L; omega
   · show (0 : Int) ≤ (at_ : Int); omega
   · show (at_ : Int) ≤ (L : Int); omega
   · show (at_ : Int) + (tx.length : Int) ≤ (L : Int); omega
 · exact h1
theorem putM_a (x : SpH) (f t : Nat) (hf : f ≤ t) (ht : t ≤ x.s.length) (h0 : 0 ≤ x.a) (h1 : x.a ≤ (x.s.length : Int)) : 0 ≤ (putM x f t).a ∧ (putM x f t).a ≤ (x.s.length : Int) := by
 show 0 ≤ (bif !(putL x.s x.tr f t == []) && bytesOf x.rows == [] then (f : Int) + (((x.s.take t).drop f).length - (putL x.s x.tr f t).length) else x.a) ∧ (bif !(putL x.s x.tr f t == []) && bytesOf x.rows == [] then (f : Int) + (((x.s.take t).drop f).length - (putL x.s x.tr f t).length) else x.a) ≤ (x.s.length : Int)
 cases !(putL x.s x.tr f t == []) && bytesOf x.rows == [] with
 | false => exact ⟨h0, h1⟩
 | true =>
  simp only [cond_true]
  have e1 := putL_len x.s x.tr f t
  have e2 : ((x.s.take t).drop f).length = t - f := by simp; omega
  omega
theorem it_good : ∀ (m : Nat) (x : SpH) (f : Nat), Inv x f → ItG x.s.length (rowsO (relX x).O) → 0 ≤ x.a → x.a ≤ (x.s.length : Int) →
 (∀ p, (itM m x f).2.2 = some p → p ≤ x.s.length) ∧ ((itM m x f).2.2 = none → ItG x.s.length (rowsO (relX (itM m x f).1).O) ∧ 0 ≤ (itM m x f).1.a ∧ (itM m x f).1.a ≤ (x.s.length : Int) ∧ (itM m x f).1.s = x.s)
 | 0, x, f, h, hr, h0, h1 => ⟨fun p hp => by simp [itM] at hp, fun _ => ⟨hr, h0, h1, rfl⟩⟩
 | m + 1, x, f, h, hi, ha0, ha1 => by
  have h' := h
  obtain ⟨h1, h2, h3, h4, h5, h6⟩ := h
  by_cases hn : itAt x.s f < 0
  · have e : itM (m + 1) x f = (x, f, none) := by rw [itM, dT hn]; rfl
    rw [e]
    exact ⟨fun p hp => by simp at hp, fun _ => ⟨hi, ha0, ha1, rfl⟩⟩
  · have hr := index_room (x.s.drop f) [123, 123] (by have : ¬ Lib.index (x.s.drop f) [123, 123] < 0 := hn; omega)
    have hd : (x.s.drop f).length = x.s.length - f := by simp
    simp only [List.length_cons, List.length_nil] at hr
    obtain ⟨n, hnn⟩ : ∃ n : Nat, itAt x.s f = n := ⟨(itAt x.s f).toNat, by omega⟩
    have hi2 : Lib.index (x.s.drop f) [123, 123] = n := hnn
    have en : ((f : Int) + itAt x.s f).toNat = f + n := by omega
    have hrx : bytesOf (relX x).rows = bytesOf x.rows := rfl
    have c1 : Can (putM (relX x) f (f + n)) := putM_can (x := relX x) h1 _ _
    have c2 : CanO (putM (relX x) f (f + n)).o (putM (relX x) f (f + n)).O := h2.1
    have c3 : (bytesOf (putM (relX x) f (f + n)).rows).length ≤ f + n := by
     rw [putM_t, List.length_append, hrx]
     have := putL_len (relX x).s (relX x).tr f (f + n)
     have h7 : (((relX x).s.take (f + n)).drop f).length ≤ n := by simp; omega
     omega
    have c4 : (rowsO (putM (relX x) f (f + n)).O).length ≤ f := h6
    have c5 : ItG x.s.length (rowsO (putM (relX x) f (f + n)).O) := hi
    have c6 := putM_a (relX x) f (f + n) (by omega) (by show f + n ≤ x.s.length; omega) ha0 ha1
    cases hb : acBad x.s (f + n) with
    | true =>
     have e : itM (m + 1) x f = (putM (relX x) f (f + n), f, some (f + n)) := by rw [itM, dF hn, en, hb]; rfl
     rw [e]
     exact ⟨fun p hp => by simp only [Option.some.injEq] at hp; omega, fun he => by simp at he⟩
    | false =>
     obtain ⟨f1, f2, f3, f4⟩ := acFrom_le x.s (f + n) hb (by omega)
     have e : itM (m + 1) x f = itM m (actionM (putM (relX x) f (f + n)) (f + n)) (acTo x.s (f + n) + 2).toNat := by rw [itM, dF hn, en, hb]; rfl
     rw [e]
     obtain ⟨a1, a2, a3, a4⟩ := acM_all c1 c2 (f + n)
     have b2 : CanO (actionM (putM (relX x) f (f + n)) (f + n)).o (actionM (putM (relX x) f (f + n)) (f + n)).O := a2
     have hin : (acIn x.s (f + n)).length + (f + n) + 2 ≤ x.s.length := by
      unfold acIn
      simp only [List.length_drop, List.length_take]
      omega
     have b5 : ItG x.s.length (rowsO (actionM (putM (relX x) f (f + n)) (f + n)).O) := acM_g c5 (by omega) c6.1 c6.2 (f + n) (by show f + n + (acIn x.s (f + n)).length ≤ _; omega)
     have w1 := win_room (x.s.drop (acFrom x.s (f + n))) false false (acFrom x.s (f + n))
     have w2 : (x.s.drop (acFrom x.s (f + n))).length = x.s.length - acFrom x.s (f + n) := by simp
     have w3 : win (x.s.drop (acFrom x.s (f + n))) false false (acFrom x.s (f + n)) = acTo x.s (f + n) := rfl
     have inv : Inv (actionM (putM (relX x) f (f + n)) (f + n)) (acTo x.s (f + n) + 2).toNat := by
      refine ⟨a1, canO_can b2, ?_, h4, ?_, ?_⟩
      · show _ ≤ x.s.length
        omega
      · have : (bytesOf (actionM (putM (relX x) f (f + n)) (f + n)).rows).length ≤ f + n := Nat.le_trans a3 c3
        omega
      · rw [canO_rel b2]
        have : (rowsO (actionM (putM (relX x) f (f + n)) (f + n)).O).length ≤ f + 2 := Nat.le_trans a4 (by omega)
        omega
     have ih := it_good m _ _ inv (by rw [canO_rel b2]; exact b5) c6.1 c6.2
     exact ih
theorem itPl_le (s : Oc) (hs : s.length ≤ 16384) (hb : itBad s = true) : itPl s ≤ s.length := by
 have h := (it_good (s.length + 1) (itX0 s) 0 (inv0 s hs) (fun r hr => by cases hr) (Int.le_refl _) (by show (0 : Int) ≤ (s.length : Int); omega)).1
 unfold itBad at hb
 obtain ⟨p, hp⟩ := Option.isSome_iff_exists.1 hb
 unfold itPl
 rw [hp]
 exact h p hp
theorem items_ok (s : Oc) (hs : s.length ≤ 16384) (hb : itBad s = false) : (∀ x ∈ itemsOf s, okPl s.length x) ∧ (itemsOf s).length ≤ s.length + 1 := by
 have hn : (itR s).2.2 = none := by unfold itBad at hb; simpa using hb
 obtain ⟨g1, g2, g3, g4⟩ := (it_good (s.length + 1) (itX0 s) 0 (inv0 s hs) (fun r hr => by cases hr) (Int.le_refl _) (by show (0 : Int) ≤ (s.length : Int); omega)).2 hn
 obtain ⟨⟨h1, h2, h3, h4, h5, h6⟩, h7⟩ := it_inv (s.length + 1) (itX0 s) 0 (inv0 s hs) (fun r hr => by cases hr) hn
 have hk := itM_keep (s.length + 1) (itX0 s) 0
 have q3 : (itR s).2.1 ≤ s.length := by
  have : (itM (s.length + 1) (itX0 s) 0).2.1 ≤ (itM (s.length + 1) (itX0 s) 0).1.s.length := h3
  rw [g4] at this
  exact this
 have e0 : (itM (s.length + 1) (itX0 s) 0).1 = itY s := hk
 have hG : ItG s.length (rowsO (relX (itY s)).O) := by rw [← e0]; exact g1
 have ha := putM_a (relX (itY s)) (itR s).2.1 s.length q3 (Nat.le_refl _) (by show 0 ≤ (itY s).a; rw [← e0]; exact g2) (by show (itY s).a ≤ (s.length : Int); rw [← e0]; exact g3)
 have hbb : (bytesOf (itZ s).rows).length ≤ s.length := by
  show (bytesOf (putM (relX (itY s)) (itR s).2.1 s.length).rows).length ≤ _
  rw [putM_t, List.length_append]
  have k1 := putL_len (relX (itY s)).s (relX (itY s)).tr (itR s).2.1 s.length
  have k2 : (((relX (itY s)).s.take s.length).drop (itR s).2.1).length ≤ s.length - (itR s).2.1 := by
   rw [List.length_drop, List.length_take]
   have : (relX (itY s)).s.length = s.length := rfl
   omega
  have k3 : (bytesOf (relX (itY s)).rows).length ≤ (itR s).2.1 := by
   have : bytesOf (relX (itY s)).rows = bytesOf (itM (s.length + 1) (itX0 s) 0).1.rows := by rw [e0]; rfl
   rw [this]; exact h5
  omega
 have hW : ItG s.length (rowsO (itW s).O) := flushM_g (x := itZ s) hG hbb ha.1 ha.2
 have hL : (rowsO (itW s).O).length ≤ s.length + 1 := by
  have k4 : (rowsO (relX (itY s)).O).length ≤ s.length := by
   rw [← e0]; exact Nat.le_trans h6 q3
  show (rowsO (flushM (itZ s)).O).length ≤ _
  unfold flushM
  simp only [rowsO]
  have k5 : (rowsO (itZ s).O).length ≤ s.length := k4
  cases flN (itZ s)
  · simp only [cond_false, List.length_append, List.length_singleton]
    exact Nat.succ_le_succ k5
  · simp only [cond_true]
    exact Nat.le_succ_of_le k5
 refine ⟨fun x hx => ?_, by unfold itemsOf; rw [List.length_map]; exact hL⟩
 unfold itemsOf at hx
 obtain ⟨r, hr, rfl⟩ := List.mem_map.1 hx
 obtain ⟨i, rfl, hi⟩ := hW r hr
 exact hi
end Go.Mu
namespace Go.Mu
open Go Go.Proofs
abbrev encDfs (f : Bool) (l : List DfD) : AVal := encL f encDf df0 l
def ps1 (s : Oc) : PsD := ⟨itemsOf s, [mkDf [] nilList], s.length, 0, 0⟩
def parsR (s : Oc) : PRes (List NdD × PcD) := nodesR 0 (ps1 s)
def parsDefs (s : Oc) : List DfD := (parsR s).s.defs.set 0 (mkDf ((parsR s).s.defs.getD 0 df0).name (bodyV (parsR s).v.1))
def parsE (s : Oc) : Int := bif decide (16384 < s.length) then 5 else bif itBad s then 8 else bif (parsR s).bad.isSome then ((parsR s).bad.getD (0, 0)).2 else 0
def parsA (s : Oc) : Int := bif decide (16384 < s.length) then 0 else bif itBad s then (itPl s : Nat) else bif (parsR s).bad.isSome then ((parsR s).bad.getD (0, 0)).1 else (s.length : Nat)
def parsD (s : Oc) : List DfD := bif decide (16384 < s.length) then [] else bif itBad s then [] else bif (parsR s).bad.isSome then [] else parsDefs s
theorem ps1_ok (s : Oc) (hs : s.length ≤ 16384) (hb : itBad s = false) : okS (ps1 s) := by
 obtain ⟨h1, h2⟩ := items_ok s hs hb
 refine ⟨fun x hx => ?_, by show (itemsOf s).length ≤ 32768; omega, Int.le_refl _, by show (0 : Int) ≤ 1024; omega, by show 1 + (itemsOf s).length ≤ 65536; omega⟩
 obtain ⟨g1, g2, g3, _⟩ := h1 x hx
 exact ⟨by omega, g2, by omega⟩
theorem layPar_ok : (layPar (okNd 40000)).OK Tryz.prog := ((Lay.nil_ok.addF itemsTold_ok).addF (nodes_told 39999)).addN (by kernel_rfl)
theorem pars_call (s : Oc) : CallOK Tryz.prog 6 [.str s] [] (.ret (.tuple [encDfs false (parsD s), .int .i64 (parsA s), .int .i64 (parsE s)]) []) := by
 have key := fun k => ps_fun (okNd 40000) s k
 have hsub : ∀ a b : AVal, Sub (.tuple [.list true 0 (fun _ => []), a, b]) (.tuple [encDfs false [], a, b]) := fun a b => Sub.tuple (.cons (Sub.list (fun h => by cases h) (fun i hi => by omega)) (.refl _))
 unfold parsD parsA parsE
 by_cases hl : 16384 < s.length
 · simp only [dT hl, cond_true] at key ⊢
   exact (layPar_ok.callF rfl key).sub (.refl _) ⟨hsub _ _, rfl⟩
 simp only [dF hl, cond_false] at key ⊢
 cases hb : itBad s with
 | true =>
  simp only [hb, cond_true, sameV_refl, Bool.and_self] at key ⊢
  exact (layPar_ok.callF rfl key).sub (.refl _) ⟨hsub _ _, rfl⟩
 | false =>
 simp only [hb, cond_false] at key ⊢
 have hok := ps1_ok s (by omega) hb
 obtain ⟨_, hit⟩ := items_ok s (by omega) hb
 have eR : [[AVal.str [], AVal.list true 0 fun (x : Nat) => []]] = [mkDf [] nilList].map encDf := rfl
 have eN : ndN 0 (encIts (itemsOf s)) [[AVal.str [], AVal.list true 0 fun (x : Nat) => []]] 0 (s.length : Int) 0 = parsR s := by
  rw [eR, ndN_e]; rfl
 replace key := keyT key (tst_true ⟨⟨⟨(.var [nilList], .var [.int .i64 (s.length : Int)], .var [.int .i64 0]), ps1 s, rfl, hok, by show (itemsOf s).length < 40000; omega, ⟨_, _, rfl⟩⟩, okG_nil, Int.le_refl _, by show (0 : Int) ≤ 100; omega⟩, .refl _, by first | trivial | rfl⟩)
 simp only [eN] at key
 have hst := stp_nodesR hok 0
 have hp : parsR s = nodesR 0 (ps1 s) := rfl
 unfold parsDefs
 rw [← hp] at hst
 generalize parsR s = r at key hst ⊢
 obtain ⟨rb, ⟨body, w⟩, s2⟩ := r
 cases rb with
 | some b =>
  simp only [Option.isSome_some, cond_true, Option.getD_some] at key ⊢
  exact (layPar_ok.callF rfl key).sub (.refl _) ⟨hsub _ _, rfl⟩
 | none =>
  simp only [Option.isSome_none, cond_false] at key ⊢
  have hlen : 0 < s2.defs.length := by
   have h1 : (ps1 s).defs.length ≤ s2.defs.length := hst.2.2.1
   have h2 : (ps1 s).defs.length = 1 := rfl
   omega
  have hl2 : (s2.defs.map encDf).length = s2.defs.length := List.length_map _
  have c1 : (s2.ver == s2.ver && true && decide ((0 : Int) < ((s2.defs.map encDf).length : Int))) = true := by rw [hl2, dT (by omega)]; simp
  have c2 : (s2.ver == s2.ver) = true := by simp
  have c3 : (s2.ver == s2.ver && decide (0 < (s2.defs.map encDf).length) && true) = true := by rw [hl2, dT hlen]; simp
  replace key := keyT (keyT (keyT key c1) c2) c3
  have e5 := set_enc s2.defs 0 hlen (bodyV body) ⟨_, _, _, rfl⟩
  have e6 : (s2.defs.map encDf).length = ((s2.defs.set 0 (mkDf (s2.defs.getD 0 df0).name (bodyV body))).map encDf).length := by rw [List.length_map, List.length_map, List.length_set]
  generalize hds : s2.defs.set 0 (mkDf (s2.defs.getD 0 df0).name (bodyV body)) = ds at e5 e6 ⊢
  have key2 : ∀ k : Out → Ans, iFun Tryz.prog ((layPar (okNd 40000)).hd Tryz.prog) (layPar (okNd 40000)).fhs 0 6 [.str s] [] k = k (.ret (.tuple [.own 3 0 (ds.map encDf).length s2.ver false, .int .i64 (s.length : Int), .int .i64 0])
   [.var [.own 3 0 (ds.map encDf).length s2.ver false], .var [.int .i64 (s.length : Int)], .var [.int .i64 0], .arr 2 (ds.map encDf) s2.ver, .var [encIts s2.items, .own 3 0 (ds.map encDf).length s2.ver false, .int .i64 s2.left, .int .i64 s2.size]]) := fun k => (key k).trans (by rw [← e6, ← e5])
  obtain ⟨v, g1, g2⟩ := freeze_rows (f := encDf) (d := df0) (l := ds) (k := 3) (sz := 2) (u := s2.ver) (H := [.var [.own 3 0 (ds.map encDf).length s2.ver false], .var [.int .i64 (s.length : Int)], .var [.int .i64 0], .arr 2 (ds.map encDf) s2.ver, .var [encIts s2.items, .own 3 0 (ds.map encDf).length s2.ver false, .int .i64 s2.left, .int .i64 s2.size]]) rfl (fun a => rfl)
  exact ((layPar_ok.call key2).freeze (d := 3) (freeze_t3 g1)).sub (.refl _) ⟨Sub.tuple (.cons g2 (.refl _)), rfl⟩
noncomputable def parsTold : FSp := mkFS [.s] (fun _ => true) (fun xs k => k (.ret (.tuple [encDfs false (parsD (aS xs 0)), .int .i64 (parsA (aS xs 0)), .int .i64 (parsE (aS xs 0))]) []))
theorem parsTold_ok : ∀ xs H k out, parsTold xs H k = some out → ∃ o, CallOK Tryz.prog 6 xs H o ∧ k o = some out := mkFS_ok fun ys xs e h => by
 obtain ⟨s, rfl⟩ : ∃ s, xs = [.str s] := ⟨_, e⟩
 exact ⟨_, fun k => rfl, pars_call s⟩
end Go.Mu
namespace Go.Mu
open Go Go.Proofs
def wfV : Nat → AVal → Prop
 | 0, _ => False
 | d + 1, x => wfL wfNd x = true ∧ lenL x ≤ 1099511627776 ∧ ∀ n ∈ nodes x, wfV d n.body ∧ wfV d n.els
def cntV : Nat → AVal → Nat
 | 0, _ => 0
 | d + 1, x => (nodes x).length + ((nodes x).map (fun n => cntV d n.body + cntV d n.els)).sum
def dpF (f : AVal → Nat) (m : Nat) (n : NdD) : Nat := max m (1 + max (f n.body) (f n.els))
def dpV : Nat → AVal → Nat
 | 0, _ => 0
 | d + 1, x => (nodes x).foldl (dpF (dpV d)) 0
structure SzA where
 f : Bool
 l : List NdD
 H : Heap
noncomputable def szTold (C : AVal → Nat) (W : AVal → Prop) : FSp := fun xs H k => match xs with
 | [x] => cond (tst (W x)) (k (.ret (.int .i64 (C x)) H)) none
 | _ => none
noncomputable def laySz (C : AVal → Nat) (W : AVal → Prop) : Lay := Lay.nil.addF 9 (szTold C W)
noncomputable def layDp (C : AVal → Nat) (W : AVal → Prop) : Lay := Lay.nil.addF 10 (szTold C W)
noncomputable def szSp (C : AVal → Nat) (W : AVal → Prop) : LSp := mkL (fun vs _ H => SzA.mk (fullOf (vs.getD 1 .undef)) (nodes (vs.getD 1 .undef)) H) (fun a => W (encNds a.f a.l)) (fun a => [.int .i64 (a.l.length : Nat), encNds a.f a.l, .int .i64 (a.l.length : Nat), .int .i64 0]) (fun _ => []) (fun a => a.H)
 (fun a k => k (.exit 0) [.int .i64 (C (encNds a.f a.l))] [] a.H)
noncomputable def dpSp (C : AVal → Nat) (W : AVal → Prop) : LSp := mkL (fun vs _ H => SzA.mk (fullOf (vs.getD 1 .undef)) (nodes (vs.getD 1 .undef)) H) (fun a => W (encNds a.f a.l)) (fun a => [.int .i64 0, encNds a.f a.l, .int .i64 (a.l.length : Nat), .int .i64 0]) (fun _ => []) (fun a => a.H)
 (fun a k => k (.exit 0) [.int .i64 (C (encNds a.f a.l))] [] a.H)
noncomputable def szFH (C : AVal → Nat) (W : AVal → Prop) : FH := .of [(3, loopSpec 25 [3,8,9,10] [] [3] [] (szSp C W))]
noncomputable def dpFH (C : AVal → Nat) (W : AVal → Prop) : FH := .of [(3, loopSpec 24 [3,6,7,8] [] [3] [] (dpSp C W))]
theorem sz_step (C : AVal → Nat) (W : AVal → Prop) (C' : AVal → Nat) (W' : AVal → Prop) (f : Bool) (l : List NdD) (c n i : Int) (H : Heap) (D : Dfs) (k : Kont) : lturn Tryz.prog (laySz C W) (szFH C' W') 9 3 [3,8,9,10] [] [3] [] (stL 25 [3,8,9,10] [.int .i64 c, encNds f l, .int .i64 n, .int .i64 i] [] [] H D) k = (
 bif decide (i < n) then bif decide (0 ≤ i) && decide (i < (↑l.length : Int)) then bif tst (W (AVal.list (l.getD i.toNat nd0).bf (l.getD i.toNat nd0).bn (l.getD i.toNat nd0).br)) then bif tst (W (AVal.list (l.getD i.toNat nd0).ef (l.getD i.toNat nd0).en (l.getD i.toNat nd0).er)) then k AExit.normal (stL 25 [3, 8, 9, 10] [AVal.int .i64 (IntKind.i64.wrap (c + IntKind.i64.wrap ((↑(C (AVal.list (l.getD i.toNat nd0).bf (l.getD i.toNat nd0).bn (l.getD i.toNat nd0).br)) : Int) + (↑(C (AVal.list (l.getD i.toNat nd0).ef (l.getD i.toNat nd0).en (l.getD i.toNat nd0).er)) : Int)))), AVal.list f l.length fun (i : Nat) => encNd (l.getD i nd0), AVal.int .i64 n, AVal.int .i64 (IntKind.i64.wrap (i + 1))] [] [] H D) else none else none else none else k (AExit.exit 0) (stL 25 [3] [AVal.int .i64 c] [] [] H D)) := by kernel_rfl
theorem dp_step (C : AVal → Nat) (W : AVal → Prop) (C' : AVal → Nat) (W' : AVal → Prop) (f : Bool) (l : List NdD) (c n i : Int) (H : Heap) (D : Dfs) (k : Kont) : lturn Tryz.prog (layDp C W) (dpFH C' W') 10 3 [3,6,7,8] [] [3] [] (stL 24 [3,6,7,8] [.int .i64 c, encNds f l, .int .i64 n, .int .i64 i] [] [] H D) k = (
 let n0 : Int := (↑(C (AVal.list (l.getD i.toNat nd0).ef (l.getD i.toNat nd0).en (l.getD i.toNat nd0).er)) : Int);
 let n1 : Int := (↑(C (AVal.list (l.getD i.toNat nd0).bf (l.getD i.toNat nd0).bn (l.getD i.toNat nd0).br)) : Int);
 let n2 : Int := IntKind.i64.wrap (1 + if n0 > n1 then n0 else n1);
  bif decide (i < n) then bif decide (0 ≤ i) && decide (i < (↑l.length : Int)) then bif tst (W (AVal.list (l.getD i.toNat nd0).bf (l.getD i.toNat nd0).bn (l.getD i.toNat nd0).br)) then bif tst (W (AVal.list (l.getD i.toNat nd0).ef (l.getD i.toNat nd0).en (l.getD i.toNat nd0).er)) then k AExit.normal (stL 24 [3, 6, 7, 8] [AVal.int .i64 (if n2 > c then n2 else c), AVal.list f l.length fun (i : Nat) => encNd (l.getD i nd0), AVal.int .i64 n, AVal.int .i64 (IntKind.i64.wrap (i + 1))] [] [] H D) else none else none else none else k (AExit.exit 0) (stL 24 [3] [AVal.int .i64 c] [] [] H D)) := by kernel_rfl
noncomputable def laySz1 (C : AVal → Nat) (W : AVal → Prop) (C' : AVal → Nat) (W' : AVal → Prop) : Lay := (laySz C W).addL 9 (szFH C' W')
noncomputable def layDp1 (C : AVal → Nat) (W : AVal → Prop) (C' : AVal → Nat) (W' : AVal → Prop) : Lay := (layDp C W).addL 10 (dpFH C' W')
theorem sz_fun (C : AVal → Nat) (W : AVal → Prop) (C' : AVal → Nat) (W' : AVal → Prop) (f : Bool) (l : List NdD) (H : Heap) (k : Out → Ans) : iFun Tryz.prog ((laySz1 C W C' W').hd Tryz.prog) (laySz1 C W C' W').fhs 0 9 [encNds f l] H k = (
 bif tst (W' (encNds (fullOf (AVal.list f l.length fun (i : Nat) => encNd (l.getD i nd0))) (nodes (AVal.list f l.length fun (i : Nat) => encNd (l.getD i nd0)))) ∧ SubTL [AVal.int .i64 (↑l.length : Int), AVal.list f l.length fun (i : Nat) => encNd (l.getD i nd0), AVal.int .i64 (↑l.length : Int), AVal.int .i64 0] [AVal.int .i64 (↑(nodes (AVal.list f l.length fun (i : Nat) => encNd (l.getD i nd0))).length : Int), encNds (fullOf (AVal.list f l.length fun (i : Nat) => encNd (l.getD i nd0))) (nodes (AVal.list f l.length fun (i : Nat) => encNd (l.getD i nd0))), AVal.int .i64 (↑(nodes (AVal.list f l.length fun (i : Nat) => encNd (l.getD i nd0))).length : Int), AVal.int .i64 0] ∧ ([] : List (List AVal)) = [] ∧ H = H) then k (Out.ret (AVal.int .i64 (↑(C' (encNds (fullOf (AVal.list f l.length fun (i : Nat) => encNd (l.getD i nd0))) (nodes (AVal.list f l.length fun (i : Nat) => encNd (l.getD i nd0))))) : Int)) H) else none) := by kernel_rfl
theorem dp_fun (C : AVal → Nat) (W : AVal → Prop) (C' : AVal → Nat) (W' : AVal → Prop) (f : Bool) (l : List NdD) (H : Heap) (k : Out → Ans) : iFun Tryz.prog ((layDp1 C W C' W').hd Tryz.prog) (layDp1 C W C' W').fhs 0 10 [encNds f l] H k = (
 bif tst (W' (encNds (fullOf (AVal.list f l.length fun (i : Nat) => encNd (l.getD i nd0))) (nodes (AVal.list f l.length fun (i : Nat) => encNd (l.getD i nd0)))) ∧ SubTL [AVal.int .i64 0, AVal.list f l.length fun (i : Nat) => encNd (l.getD i nd0), AVal.int .i64 (↑l.length : Int), AVal.int .i64 0] [AVal.int .i64 0, encNds (fullOf (AVal.list f l.length fun (i : Nat) => encNd (l.getD i nd0))) (nodes (AVal.list f l.length fun (i : Nat) => encNd (l.getD i nd0))), AVal.int .i64 (↑(nodes (AVal.list f l.length fun (i : Nat) => encNd (l.getD i nd0))).length : Int), AVal.int .i64 0] ∧ ([] : List (List AVal)) = [] ∧ H = H) then k (Out.ret (AVal.int .i64 (↑(C' (encNds (fullOf (AVal.list f l.length fun (i : Nat) => encNd (l.getD i nd0))) (nodes (AVal.list f l.length fun (i : Nat) => encNd (l.getD i nd0))))) : Int)) H) else none) := by kernel_rfl
end Go.Mu
namespace Go.Mu
open Go Go.Proofs
abbrev szW (d : Nat) (x : AVal) : Prop := wfV d x ∧ cntV d x ≤ 1099511627776 ∧ d ≤ 900
theorem dpV_le : ∀ (d : Nat) (x : AVal), dpV d x ≤ d
 | 0, x => by simp [dpV]
 | d + 1, x => by
  unfold dpV
  have : ∀ (l : List NdD) (m : Nat), m ≤ d + 1 → l.foldl (dpF (dpV d)) m ≤ d + 1 := by
   intro l
   induction l with
   | nil => intro m hm; exact hm
   | cons n l ih =>
    intro m hm
    rw [List.foldl_cons]
    refine ih _ ?_
    have h1 := dpV_le d n.body
    have h2 := dpV_le d n.els
    unfold dpF
    omega
  exact this _ 0 (Nat.zero_le _)
theorem fold_runs {turn : St → Kont → Ans} {S : Nat → Nat → St} {E : Nat → St} {l : List NdD} {step : Nat → NdD → Nat} {I : Nat → Nat → Prop}
 (h1 : ∀ (c i : Nat) (k : Kont), i < l.length → I c i → turn (S c i) k = k .normal (S (step c (l.getD i nd0)) (i + 1))) (hI : ∀ c i, i < l.length → I c i → I (step c (l.getD i nd0)) (i + 1))
 (h2 : ∀ (c : Nat) (k : Kont), turn (S c l.length) k = k (.exit 0) (E c)) (k : Kont) : ∀ (m i c : Nat), i + m = l.length → I c i → rounds turn (m + 1) (S c i) k = k (.exit 0) (E ((l.drop i).foldl step c))
 | 0, i, c, he, hi => by
  obtain rfl : i = l.length := by omega
  rw [rounds_succ', h2, List.drop_length]
  rfl
 | m + 1, i, c, he, hi => by
  have hl : i < l.length := by omega
  rw [rounds_succ', h1 c i _ hl hi, drop_cons_of l i nd0 hl, List.foldl_cons]
  exact fold_runs h1 hI h2 k m (i + 1) _ (by omega) (hI c i hl hi)
theorem foldl_sum (f : NdD → Nat) : ∀ (l : List NdD) (c : Nat), l.foldl (fun c n => c + f n) c = c + (l.map f).sum
 | [], c => rfl
 | n :: l, c => by
  rw [List.foldl_cons, foldl_sum f l, List.map_cons, List.sum_cons]; omega
def szN (d : Nat) (n : NdD) : Nat := cntV d n.body + cntV d n.els
theorem sum_mem : ∀ {l : List Nat} {x : Nat}, x ∈ l → x ≤ l.sum
 | y :: l, x, h => by
  rw [List.sum_cons]
  rcases List.mem_cons.1 h with rfl | h
  · omega
  · have := sum_mem h; omega
theorem szW_of {d : Nat} {f : Bool} {l : List NdD} (h : szW (d + 1) (encNds f l)) : l.length ≤ 1099511627776 ∧ (∀ n ∈ l, szW d n.body ∧ szW d n.els) ∧ cntV (d + 1) (encNds f l) = l.length + (l.map (szN d)).sum ∧ l.length + (l.map (szN d)).sum ≤ 1099511627776 ∧ d ≤ 900 := by
 obtain ⟨⟨h1, h2, h3⟩, h4, h5⟩ := h
 have e : nodes (encNds f l) = l := nodes_enc f l
 rw [e] at h3
 have e3 : cntV (d + 1) (encNds f l) = l.length + (l.map (szN d)).sum := by
  conv => lhs; unfold cntV
  rw [e]; rfl
 rw [e3] at h4
 refine ⟨h2, fun n hn => ?_, e3, h4, by omega⟩
 have h6 : szN d n ≤ (l.map (szN d)).sum := sum_mem (List.mem_map.2 ⟨n, hn, rfl⟩)
 have h7 : cntV d n.body + cntV d n.els ≤ (l.map (szN d)).sum := h6
 exact ⟨⟨(h3 n hn).1, by omega, by omega⟩, ⟨(h3 n hn).2, by omega, by omega⟩⟩
theorem mem_getD {l : List NdD} {i : Nat} (h : i < l.length) : l.getD i nd0 ∈ l := by
 simp only [List.getD_eq_getElem?_getD, List.getElem?_eq_getElem h, Option.getD_some]
 exact List.getElem_mem h
theorem sub_szW {d : Nat} {x : AVal} (h : szW (d + 1) x) : szW (d + 1) (encNds (fullOf x) (nodes x)) ∧ cntV (d + 1) (encNds (fullOf x) (nodes x)) = cntV (d + 1) x ∧ dpV (d + 1) (encNds (fullOf x) (nodes x)) = dpV (d + 1) x ∧ Sub x (encNds (fullOf x) (nodes x)) := by
 obtain ⟨⟨h1, h2, h3⟩, h4, h5⟩ := h
 have e1 : nodes (encNds (fullOf x) (nodes x)) = nodes x := nodes_enc _ _
 have hl2 : (nodes x).length = lenL x := lenL_decL (g := decNd) h1
 have ec : cntV (d + 1) (encNds (fullOf x) (nodes x)) = cntV (d + 1) x := by unfold cntV; rw [e1]
 refine ⟨⟨⟨wfL_encL wfNd_enc _, by show (nodes x).length ≤ _; rw [hl2]; exact h2, by rw [e1]; exact h3⟩, by rw [ec]; exact h4, h5⟩, ec, ?_, sub_encL h1 wfNd_sub⟩
 unfold dpV; rw [e1]
noncomputable abbrev szTurn (d : Nat) := lturn Tryz.prog (laySz (cntV d) (szW d)) (szFH (cntV (d + 1)) (szW (d + 1))) 9 3 [3,8,9,10] [] [3] []
noncomputable abbrev dpTurn (d : Nat) := lturn Tryz.prog (layDp (dpV d) (szW d)) (dpFH (dpV (d + 1)) (szW (d + 1))) 10 3 [3,6,7,8] [] [3] []
theorem szSp_ok (d : Nat) : SpOK (szTurn d) 25 [3,8,9,10] [] [3] [] (szSp (cntV (d + 1)) (szW (d + 1))) := mkL_ok fun a h => by
 obtain ⟨f, l, H⟩ := a
 replace h : szW (d + 1) (encNds f l) := h
 obtain ⟨hl, hw, hc, hb, hd⟩ := szW_of h
 refine ⟨_, _, _, _, fun k => rfl, l.length + 1, fun D k => ?_⟩
 have := fold_runs (turn := szTurn d) (S := fun c i => stL 25 [3,8,9,10] [.int .i64 (c : Nat), encNds f l, .int .i64 (l.length : Nat), .int .i64 (i : Nat)] [] [] H D) (E := fun c => stL 25 [3] [.int .i64 (c : Nat)] [] [] H D) (l := l) (step := fun c n => c + szN d n) (I := fun c i => c + ((l.drop i).map (szN d)).sum ≤ 1099511627776)
  (fun c i k hi hI => by
   refine (sz_step _ _ _ _ f l c (l.length : Nat) i H D k).trans ?_
   obtain ⟨w1, w2⟩ := hw _ (mem_getD hi)
   rw [drop_cons_of l i nd0 hi, List.map_cons, List.sum_cons] at hI
   rw [Int.toNat_natCast]
   generalize l.getD i nd0 = n at w1 w2 hI
   have hn : szN d n = cntV d (.list n.bf n.bn n.br) + cntV d (.list n.ef n.en n.er) := rfl
   rw [hn] at hI
   have t1 : tst (szW d (.list n.bf n.bn n.br)) = true := tst_true w1
   have t2 : tst (szW d (.list n.ef n.en n.er)) = true := tst_true w2
   have e1 : IntKind.i64.wrap (((cntV d (.list n.bf n.bn n.br) : Nat) : Int) + ((cntV d (.list n.ef n.en n.er) : Nat) : Int)) = ((cntV d (.list n.bf n.bn n.br) + cntV d (.list n.ef n.en n.er) : Nat) : Int) := by
    rw [wrap_of (by omega) (by omega)]; omega
   have e2 : IntKind.i64.wrap ((c : Int) + ((cntV d (.list n.bf n.bn n.br) + cntV d (.list n.ef n.en n.er) : Nat) : Int)) = ((c + (cntV d (.list n.bf n.bn n.br) + cntV d (.list n.ef n.en n.er)) : Nat) : Int) := by
    rw [wrap_of (by omega) (by omega)]; omega
   simp only [t1, t2, e1, e2, dT (show (i : Int) < (l.length : Nat) by omega), dT (show (0 : Int) ≤ (i : Int) by omega), Bool.and_self, cond_true, wrap_add1 (show i < 4611686018427387904 by omega), hn])
  (fun c i hi hI => by
   rw [drop_cons_of l i nd0 hi, List.map_cons, List.sum_cons] at hI
   omega)
  (fun c k => by
   refine (sz_step _ _ _ _ f l c (l.length : Nat) (l.length : Nat) H D k).trans ?_
   simp only [dF (show ¬ ((l.length : Nat) : Int) < (l.length : Nat) by omega), cond_false]) k l.length 0 l.length (by omega) (by simpa using hb)
 rw [List.drop_zero, foldl_sum, ← hc] at this
 exact this
theorem dpSp_ok (d : Nat) : SpOK (dpTurn d) 24 [3,6,7,8] [] [3] [] (dpSp (dpV (d + 1)) (szW (d + 1))) := mkL_ok fun a h => by
 obtain ⟨f, l, H⟩ := a
 replace h : szW (d + 1) (encNds f l) := h
 obtain ⟨hl, hw, hc, hb, hd⟩ := szW_of h
 refine ⟨_, _, _, _, fun k => rfl, l.length + 1, fun D k => ?_⟩
 have := fold_runs (turn := dpTurn d) (S := fun c i => stL 24 [3,6,7,8] [.int .i64 (c : Nat), encNds f l, .int .i64 (l.length : Nat), .int .i64 (i : Nat)] [] [] H D) (E := fun c => stL 24 [3] [.int .i64 (c : Nat)] [] [] H D) (l := l) (step := dpF (dpV d)) (I := fun c i => c ≤ 1000)
  (fun c i k hi hI => by
   refine (dp_step _ _ _ _ f l c (l.length : Nat) i H D k).trans ?_
   obtain ⟨w1, w2⟩ := hw _ (mem_getD hi)
   rw [Int.toNat_natCast]
   generalize l.getD i nd0 = n at w1 w2
   have t1 : tst (szW d (.list n.bf n.bn n.br)) = true := tst_true w1
   have t2 : tst (szW d (.list n.ef n.en n.er)) = true := tst_true w2
   have b1 := dpV_le d (.list n.bf n.bn n.br)
   have b2 := dpV_le d (.list n.ef n.en n.er)
   have hn : dpF (dpV d) c n = max c (1 + max (dpV d (.list n.bf n.bn n.br)) (dpV d (.list n.ef n.en n.er))) := rfl
   rw [hn]
   generalize dpV d (.list n.bf n.bn n.br) = p at b1 ⊢
   generalize dpV d (.list n.ef n.en n.er) = q at b2 ⊢
   have e1 : (if ((q : Nat) : Int) > ((p : Nat) : Int) then ((q : Nat) : Int) else ((p : Nat) : Int)) = ((max p q : Nat) : Int) := by split <;> omega
   have e2 : IntKind.i64.wrap (1 + ((max p q : Nat) : Int)) = ((1 + max p q : Nat) : Int) := by rw [wrap_of (by omega) (by omega)]; omega
   have e3 : (if ((1 + max p q : Nat) : Int) > ((c : Nat) : Int) then ((1 + max p q : Nat) : Int) else ((c : Nat) : Int)) = ((max c (1 + max p q) : Nat) : Int) := by split <;> omega
   simp only [t1, t2, e1, e2, e3, dT (show (i : Int) < (l.length : Nat) by omega), dT (show (0 : Int) ≤ (i : Int) by omega), Bool.and_self, cond_true, wrap_add1 (show i < 4611686018427387904 by omega)])
  (fun c i hi hI => by
   have b1 := dpV_le d (l.getD i nd0).body
   have b2 := dpV_le d (l.getD i nd0).els
   show max c (1 + max _ _) ≤ 1000
   omega)
  (fun c k => by
   refine (dp_step _ _ _ _ f l c (l.length : Nat) (l.length : Nat) H D k).trans ?_
   simp only [dF (show ¬ ((l.length : Nat) : Int) < (l.length : Nat) by omega), cond_false]) k l.length 0 0 (by omega) (Nat.zero_le _)
 have e : dpV (d + 1) (encNds f l) = l.foldl (dpF (dpV d)) 0 := by
  conv => lhs; unfold dpV
  rw [nodes_enc]
 rw [List.drop_zero, ← e] at this
 exact this
noncomputable abbrev szT (d : Nat) : FSp := szTold (cntV d) (szW d)
noncomputable abbrev dpT (d : Nat) : FSp := szTold (dpV d) (szW d)
theorem szT_ok : ∀ (d : Nat) (xs : List AVal) (H : Heap) (k : Out → Ans) (out : Out), szT d xs H k = some out → ∃ o, CallOK Tryz.prog 9 xs H o ∧ k o = some out
 | d, xs, H, k, out, ho => by
  unfold szT szTold at ho
  split at ho
  case h_2 => simp at ho
  rename_i x
  rw [Bool.cond_eq_ite] at ho
  split at ho
  case isFalse => simp at ho
  rename_i hc
  have hW := of_tst hc
  cases d with
  | zero => exact hW.1.elim
  | succ d =>
   have hE : (laySz (cntV d) (szW d)).OK Tryz.prog := Lay.nil_ok.addF (szT_ok d)
   have hE1 : (laySz1 (cntV d) (szW d) (cntV (d + 1)) (szW (d + 1))).OK Tryz.prog := hE.loop1 (id := 3) (by kernel_rfl) (by kernel_rfl) (by kernel_rfl) (szSp_ok d)
   obtain ⟨w1, w2, _, w3⟩ := sub_szW hW
   refine ⟨_, CallOK.subArgs (hE1.call (o := .ret (.int .i64 (cntV (d + 1) x)) H) (fun k => ?_)) (.cons w3 .nil), ho⟩
   refine (sz_fun _ _ _ _ _ _ H k).trans ?_
   have e : encNds (fullOf (encNds (fullOf x) (nodes x))) (nodes (encNds (fullOf x) (nodes x))) = encNds (fullOf x) (nodes x) := by rw [nodes_enc]; rfl
   refine Eq.trans (congrArg (fun c => cond c _ none) (tst_true ⟨?_, ?_, rfl, rfl⟩)) ((cond_true _ _).trans ?_)
   · show szW (d + 1) (encNds (fullOf (encNds (fullOf x) (nodes x))) (nodes (encNds (fullOf x) (nodes x))))
     rw [e]; exact w1
   · show SubTL _ [.int .i64 ((nodes (encNds (fullOf x) (nodes x))).length : Nat), encNds (fullOf (encNds (fullOf x) (nodes x))) (nodes (encNds (fullOf x) (nodes x))), .int .i64 ((nodes (encNds (fullOf x) (nodes x))).length : Nat), _]
     rw [e, nodes_enc]; exact .refl _
   · show k (.ret (.int .i64 (cntV (d + 1) (encNds (fullOf (encNds (fullOf x) (nodes x))) (nodes (encNds (fullOf x) (nodes x)))) : Nat)) H) = _
     rw [e, w2]
theorem dpT_ok : ∀ (d : Nat) (xs : List AVal) (H : Heap) (k : Out → Ans) (out : Out), dpT d xs H k = some out → ∃ o, CallOK Tryz.prog 10 xs H o ∧ k o = some out
 | d, xs, H, k, out, ho => by
  unfold dpT szTold at ho
  split at ho
  case h_2 => simp at ho
  rename_i x
  rw [Bool.cond_eq_ite] at ho
  split at ho
  case isFalse => simp at ho
  rename_i hc
  have hW := of_tst hc
  cases d with
  | zero => exact hW.1.elim
  | succ d =>
   have hE : (layDp (dpV d) (szW d)).OK Tryz.prog := Lay.nil_ok.addF (dpT_ok d)
   have hE1 : (layDp1 (dpV d) (szW d) (dpV (d + 1)) (szW (d + 1))).OK Tryz.prog := hE.loop1 (id := 3) (by kernel_rfl) (by kernel_rfl) (by kernel_rfl) (dpSp_ok d)
   obtain ⟨w1, _, w2, w3⟩ := sub_szW hW
   refine ⟨_, CallOK.subArgs (hE1.call (o := .ret (.int .i64 (dpV (d + 1) x)) H) (fun k => ?_)) (.cons w3 .nil), ho⟩
   refine (dp_fun _ _ _ _ _ _ H k).trans ?_
   have e : encNds (fullOf (encNds (fullOf x) (nodes x))) (nodes (encNds (fullOf x) (nodes x))) = encNds (fullOf x) (nodes x) := by rw [nodes_enc]; rfl
   refine Eq.trans (congrArg (fun c => cond c _ none) (tst_true ⟨?_, ?_, rfl, rfl⟩)) ((cond_true _ _).trans ?_)
   · show szW (d + 1) (encNds (fullOf (encNds (fullOf x) (nodes x))) (nodes (encNds (fullOf x) (nodes x))))
     rw [e]; exact w1
   · show SubTL _ [_, encNds (fullOf (encNds (fullOf x) (nodes x))) (nodes (encNds (fullOf x) (nodes x))), .int .i64 ((nodes (encNds (fullOf x) (nodes x))).length : Nat), _]
     rw [e, nodes_enc]; exact .refl _
   · show k (.ret (.int .i64 (dpV (d + 1) (encNds (fullOf (encNds (fullOf x) (nodes x))) (nodes (encNds (fullOf x) (nodes x)))) : Nat)) H) = _
     rw [e, w2]
end Go.Mu
namespace Go.Mu
open Go Go.Proofs
noncomputable def layAl20 : Lay := Lay.nil.addF 6 parsTold
theorem al20_fun (k : Out → Ans) : iFun Tryz.prog (layAl20.hd Tryz.prog) layAl20.fhs 0 5 [] [] k = (
 k (Out.ret (AVal.bool true) [])) := by kernel_rfl
structure MyA where
 s : Oc
 l : List DfD
 n : Int
def sumD (d : Nat) (l : List DfD) : Nat := (l.map (fun x => cntV d x.body)).sum
def mayD (l : List DfD) : Prop := l.length ≤ 65536 ∧ (∀ i, i < l.length → szW 18 (l.getD i df0).body ∧ dpV 18 (l.getD i df0).body ≤ 17 ∧ ((i == 0) = ((l.getD i df0).name == []))) ∧ sumD 18 l ≤ 1024
noncomputable def mySp : LSp := mkL (fun vs _ _ => MyA.mk (aS vs 0) (decL decDf (vs.getD 1 .undef)) (aI vs 2)) (fun a => mayD a.l) (fun a => [.str a.s, encDfs false a.l, .int .i64 a.n, .int .i64 0, .int .i64 0]) (fun _ => []) (fun _ => [])
 (fun a k => k (.exit 0) [.str a.s, .undef, .int .i64 a.n, .int .i64 (sumD 18 a.l : Nat)] [] [])
noncomputable def myFH : FH := .of [(8, loopSpec 72 [0,3,4,6,7] [] [0,2,4,6] [] mySp)]
noncomputable def lay20 : Lay := (((Lay.nil.addF 6 parsTold).addF 9 (szT 18)).addF 10 (dpT 18)).addF 5 (mkFS [] (fun _ => true) (fun _ k => k (.ret (.bool true) [])))
theorem my_step (s : Oc) (l : List DfD) (n a i : Int) (D : Dfs) (k : Kont) : lturn Tryz.prog lay20 myFH 4 8 [0,3,4,6,7] [] [0,2,4,6] [] (stL 72 [0,3,4,6,7] [.str s, encDfs false l, .int .i64 n, .int .i64 a, .int .i64 i] [] [] [] D) k = (
 let c0 : Bool := decide (i < (↑l.length : Int));
 let c1 : Bool := decide (0 ≤ i) && c0;
 let c2 : Bool := tst (szW 18 (AVal.list (l.getD i.toNat (DfD.mk [] true 0 fun (x : Nat) => [])).ff (l.getD i.toNat (DfD.mk [] true 0 fun (x : Nat) => [])).n (l.getD i.toNat (DfD.mk [] true 0 fun (x : Nat) => [])).row));
 let c3 : Bool := decide ((↑(dpV 18 (AVal.list (l.getD i.toNat (DfD.mk [] true 0 fun (x : Nat) => [])).ff (l.getD i.toNat (DfD.mk [] true 0 fun (x : Nat) => [])).n (l.getD i.toNat (DfD.mk [] true 0 fun (x : Nat) => [])).row)) : Int) > 17);
  bif c0 then bif c1 then bif c2 then bif c1 then bif c2 then bif c1 || !!c3 then bif bif c3 then true else !(i == 0) == ((l.getD i.toNat (DfD.mk [] true 0 fun (x : Nat) => [])).name == []) then k AExit.ret (stL 72 [0, 2, 4, 6] [AVal.str s, AVal.bool false, AVal.int .i64 n, AVal.int .i64 (IntKind.i64.wrap (a + (↑(cntV 18 (AVal.list (l.getD i.toNat (DfD.mk [] true 0 fun (x : Nat) => [])).ff (l.getD i.toNat (DfD.mk [] true 0 fun (x : Nat) => [])).n (l.getD i.toNat (DfD.mk [] true 0 fun (x : Nat) => [])).row)) : Int)))] [] [] [] D) else k AExit.normal (stL 72 [0, 3, 4, 6, 7] [AVal.str s, AVal.list false l.length fun (i : Nat) => encDf (l.getD i (DfD.mk [] true 0 fun (x : Nat) => [])), AVal.int .i64 n, AVal.int .i64 (IntKind.i64.wrap (a + (↑(cntV 18 (AVal.list (l.getD i.toNat (DfD.mk [] true 0 fun (x : Nat) => [])).ff (l.getD i.toNat (DfD.mk [] true 0 fun (x : Nat) => [])).n (l.getD i.toNat (DfD.mk [] true 0 fun (x : Nat) => [])).row)) : Int))), AVal.int .i64 (IntKind.i64.wrap (i + 1))] [] [] [] D) else none else none else none else none else none else k (AExit.exit 0) (stL 72 [0, 2, 4, 6] [AVal.str s, AVal.undef, AVal.int .i64 n, AVal.int .i64 a] [] [] [] D)) := by kernel_rfl
noncomputable def lay20m : Lay := lay20.addL 4 myFH
theorem my_fun (s : Oc) (k : Out → Ans) : iFun Tryz.prog (lay20m.hd Tryz.prog) lay20m.fhs 0 4 [.str s] [] k = (
 let n0 : Int := (↑s.length : Int);
  bif parsE s != 0 then k (Out.ret (AVal.bool (bif bif (↑(parsD s).length : Int) == 0 then decide (parsA s ≥ 0) else false then decide (parsA s ≤ n0) else false)) []) else bif tst (mayD (decL decDf (AVal.list false (parsD s).length fun (i : Nat) => encDf ((parsD s).getD i (DfD.mk [] true 0 fun (x : Nat) => [])))) ∧ SubTL [AVal.str s, AVal.list false (parsD s).length fun (i : Nat) => encDf ((parsD s).getD i (DfD.mk [] true 0 fun (x : Nat) => [])), AVal.int .i64 (parsA s), AVal.int .i64 0, AVal.int .i64 0] [AVal.str s, encDfs false (decL decDf (AVal.list false (parsD s).length fun (i : Nat) => encDf ((parsD s).getD i (DfD.mk [] true 0 fun (x : Nat) => [])))), AVal.int .i64 (parsA s), AVal.int .i64 0, AVal.int .i64 0] ∧ ([] : List (List AVal)) = [] ∧ ([] : Heap) = []) then k (Out.ret (AVal.bool (bif parsA s == n0 then decide ((↑(sumD 18 (decL decDf (AVal.list false (parsD s).length fun (i : Nat) => encDf ((parsD s).getD i (DfD.mk [] true 0 fun (x : Nat) => []))))) : Int) ≤ 1024) else false)) []) else none) := by kernel_rfl
end Go.Mu
namespace Go.Mu
open Go Go.Proofs
theorem strQ_offle : ∀ (n : Nat) (t acc : Oc) (i : Nat), t.length ≤ n → (strQ 0 t acc i).off ≤ i + t.length
 | n, [], acc, i, _ => Nat.zero_le _
 | n, [c], acc, i, _ => by
  rw [strQ]
  cases c == 34 with
  | true => cases decide (acc.length ≤ 4096) <;> exact Nat.zero_le _
  | false =>
   cases c == 92 || c == 10 with
   | true => exact Nat.le_add_right _ _
   | false => exact Nat.zero_le _
 | 0, c :: d :: u, acc, i, h => by simp at h
 | n + 1, c :: d :: u, acc, i, h => by
  simp only [List.length_cons] at h
  rw [strQ]
  cases c == 34 with
  | true => cases decide (acc.length ≤ 4096) <;> exact Nat.zero_le _
  | false =>
   simp only [cond_false]
   cases c == 92 && decide (escI d ≥ 0) with
   | true =>
    have := strQ_offle n u (acc ++ [escO d]) (i + 2) (by omega)
    simp only [cond_true, List.length_cons]
    omega
   | false =>
    simp only [cond_false]
    cases c == 92 || c == 10 with
    | true => simp only [cond_true, List.length_cons]; omega
    | false =>
     simp only [cond_false, List.length_cons]
     have := strQ_offle n (d :: u) (acc ++ [c]) (i + 1) (by simp only [List.length_cons]; omega)
     simp only [List.length_cons] at this
     omega
theorem oneM_off (t : Oc) (ht : t ≠ []) : (oneM t).off ≤ t.length := by
 have hl : 0 < t.length := List.length_pos_iff.2 ht
 unfold oneM
 cases ltr (t.getD 0 0) || t.getD 0 0 == 95 with
 | true => exact Nat.zero_le _
 | false =>
  cases t.getD 0 0 == 46 with
  | true => exact Nat.zero_le _
  | false =>
   cases t.getD 0 0 == 36 with
   | true => exact Nat.zero_le _
   | false =>
    cases t.getD 0 0 == 45 || dig (t.getD 0 0) with
    | true => exact Nat.zero_le _
    | false =>
     cases t.getD 0 0 == 34 with
     | true =>
      have h := strQ_offle t.length (t.drop 1) [] 1 (by rw [List.length_drop]; omega)
      rw [List.length_drop] at h
      show (strQ 0 (t.drop 1) [] 1).off ≤ t.length
      omega
     | false => cases [58, 61].isPrefixOf t <;> exact Nat.zero_le _
theorem wdsM_pl : ∀ (m : Nat) (t : Oc) (p : Nat), (∀ w ∈ (wdsM m t p).1, w.at_ ≤ p + t.length) ∧ (∀ q off e, (wdsM m t p).2 = some (q, off, e) → q + off ≤ p + t.length)
 | 0, t, p => ⟨fun w hw => by simp [wdsM] at hw, fun q off e h => by simp [wdsM] at h⟩
 | m + 1, t, p => by
  rw [wdsM]
  cases h0 : t == [] with
  | true => exact ⟨fun w hw => by simp at hw, fun q off e h => by simp at h⟩
  | false =>
  have ht : t ≠ [] := fun h => by rw [h] at h0; simp at h0
  have hl : 0 < t.length := List.length_pos_iff.2 ht
  simp only [cond_false]
  cases blk (t.getD 0 0) with
  | true =>
   simp only [cond_true]
   obtain ⟨h1, h2⟩ := wdsM_pl m (t.drop 1) (p + 1)
   rw [List.length_drop] at h1 h2
   exact ⟨fun w hw => by have := h1 w hw; omega, fun q off e h => by have := h2 q off e h; omega⟩
  | false =>
   simp only [cond_false]
   cases he : (oneM t).e == 0 with
   | true =>
    obtain ⟨l1, l2⟩ := one_len ht (by simpa using he)
    obtain ⟨h1, h2⟩ := wdsM_pl m (t.drop (oneM t).len) (p + (oneM t).len)
    rw [List.length_drop] at h1 h2
    simp only [cond_true]
    refine ⟨fun w hw => ?_, fun q off e h => by have := h2 q off e h; omega⟩
    rcases List.mem_cons.1 hw with rfl | hw
    · exact Nat.le_add_right _ _
    · have := h1 w hw; omega
   | false =>
    simp only [cond_false]
    refine ⟨fun w hw => by simp at hw, fun q off e h => ?_⟩
    simp only [Option.some.injEq, Prod.mk.injEq] at h
    obtain ⟨rfl, rfl, rfl⟩ := h
    have := oneM_off t ht
    omega
theorem wdAt_le (s : Oc) (h : (wordsE s).isSome = true) : wdAt s ≤ s.length := by
 obtain ⟨⟨q, off, e⟩, hp⟩ := Option.isSome_iff_exists.1 h
 unfold wdAt
 rw [hp]
 have := (wdsM_pl s.length s 0).2 q off e hp
 show q + off ≤ s.length
 omega
theorem getD_in {α : Type} (l : List α) (i : Nat) (d : α) : l.getD i d ∈ l ∨ l.getD i d = d := by
 rcases Nat.lt_or_ge i l.length with h | h
 · left
   simp only [List.getD_eq_getElem?_getD, List.getElem?_eq_getElem h, Option.getD_some]
   exact List.getElem_mem h
 · right
   simp [List.getD_eq_getElem?_getD, List.getElem?_eq_none h]
theorem argsM_pl {Q : Nat → Prop} : ∀ (l : List WdD), (∀ w ∈ l, Q w.at_) → ∀ e, (argsM l).2 = some e → Q e.1
 | [], _, e, h => by simp [argsM] at h
 | w :: l, hq, e, h => by
  rw [argsM] at h
  cases ha : argE w == 0 with
  | true => rw [ha] at h; exact argsM_pl l (fun x hx => hq x (List.mem_cons_of_mem _ hx)) e h
  | false =>
   rw [ha] at h
   simp only [cond_false, Option.some.injEq] at h
   rw [← h]
   exact hq w (List.mem_cons_self ..)
theorem calE_pl {Q : Nat → Prop} (w : WdD) (r : List WdD) (ah : Bool) (hw : Q w.at_) (hr : ∀ x ∈ r, Q x.at_) (e : Nat × Int) (h : calE w r ah = some e) : Q e.1 := by
 unfold calE at h
 cases hn : isName w with
 | true =>
  rw [hn] at h
  simp only [cond_true] at h
  cases h1 : !(ar w.text).2.2 with
  | true => rw [h1] at h; simp only [cond_true, Option.some.injEq] at h; rw [← h]; exact hw
  | false =>
   rw [h1] at h
   simp only [cond_false] at h
   cases h2 : (argsM r).2 with
   | some e' => rw [h2] at h; simp only [Option.some.injEq] at h; rw [← h]; exact argsM_pl r hr e' h2
   | none =>
    rw [h2] at h
    simp only at h
    generalize (decide ((((argsM r).1.length + (bif ah then 1 else 0) : Nat) : Int) ≥ (ar w.text).1) && decide ((((argsM r).1.length + (bif ah then 1 else 0) : Nat) : Int) ≤ (ar w.text).2.1)) = c at h
    cases c with
    | true => simp at h
    | false => simp only [cond_false, Option.some.injEq] at h; rw [← h]; exact hw
 | false =>
  rw [hn] at h
  simp only [cond_false] at h
  cases ah with
  | true => simp only [cond_true, Option.some.injEq] at h; rw [← h]; exact hw
  | false =>
   simp only [cond_false] at h
   cases ha : argE w == 0 with
   | true =>
    rw [ha] at h
    simp only [cond_true] at h
    cases r with
    | nil => simp at h
    | cons x r => simp only [Option.some.injEq] at h; rw [← h]; exact hr x (List.mem_cons_self ..)
   | false => rw [ha] at h; simp only [cond_false, Option.some.injEq] at h; rw [← h]; exact hw
theorem hdW_q {Q : Nat → Prop} {l : List WdD} (hq : ∀ w ∈ l, Q w.at_) (h0 : Q 0) : Q (hdW l).at_ := by
 cases l with
 | nil => exact h0
 | cons w l => exact hq w (List.mem_cons_self ..)
theorem parM_pl {Q : Int → Prop} (h0 : Q 0) : ∀ (m : Nat) (l : List WdD) (cs : List CallD) (at_ : Int), (∀ w ∈ l, Q (w.at_ : Int)) → Q at_ → ∀ e, (parM m l cs at_).1 = some e → Q e.1
 | 0, l, cs, at_, _, _, e, h => by simp [parM] at h
 | m + 1, l, cs, at_, hq, ha, e, h => by
  have hh : Q ((hdW l).at_ : Int) := hdW_q (Q := fun n => Q (n : Int)) hq h0
  have hg : Q ((l.getD (pPos l) wd0).at_ : Int) := by
   rcases getD_in l (pPos l) wd0 with h | h
   · exact hq _ h
   · rw [h]; exact h0
  rw [parM] at h
  cases h1 : (hdW l).kind == 6 with
  | true => rw [h1] at h; simp only [cond_true, Option.some.injEq] at h; rw [← h]; exact hh
  | false =>
   rw [h1] at h
   simp only [cond_false] at h
   cases h2 : paE l (decide (0 < cs.length)) with
   | some e' =>
    rw [h2] at h
    simp only [Option.some.injEq] at h
    rw [← h]
    unfold paE at h2
    exact calE_pl (Q := fun n => Q (n : Int)) _ _ _ (hdW_q (Q := fun n => Q (n : Int)) (fun w hw => hq w (List.mem_of_mem_take hw)) h0) (fun x hx => hq x (List.mem_of_mem_take (List.mem_of_mem_tail hx))) e' h2
   | none =>
    rw [h2] at h
    simp only at h
    cases h3 : !decide (cs.length < 16) with
    | true => rw [h3] at h; simp only [cond_true, Option.some.injEq] at h; rw [← h]; exact hh
    | false =>
     rw [h3] at h
     simp only [cond_false] at h
     cases h4 : pPos l == l.length with
     | true => rw [h4] at h; simp at h
     | false =>
      rw [h4] at h
      simp only [cond_false] at h
      cases h5 : !(l.getD (pPos l) wd0).text == [124] with
      | true => rw [h5] at h; simp only [cond_true, Option.some.injEq] at h; rw [← h]; exact hg
      | false =>
       rw [h5] at h
       simp only [cond_false] at h
       cases h6 : !decide (pPos l + 1 < l.length) with
       | true => rw [h6] at h; simp only [cond_true, Option.some.injEq] at h; rw [← h]; exact ha
       | false =>
        rw [h6] at h
        simp only [cond_false] at h
        exact parM_pl h0 m _ _ at_ (fun w hw => hq w (List.mem_of_mem_drop hw)) ha e h
theorem parR_pl {Q : Int → Prop} (h0 : Q 0) (l : List WdD) (at_ : Int) (hq : ∀ w ∈ l, Q (w.at_ : Int)) (ha : Q at_) : Q (parR l at_).2.1 := by
 unfold parR
 cases l.isEmpty with
 | true => exact ha
 | false =>
  simp only [cond_false]
  have h := parM_pl h0 l.length l [] at_ hq ha
  generalize parM l.length l [] at_ = r at h
  obtain ⟨ro, cs⟩ := r
  cases ro with
  | some e => exact h e rfl
  | none => exact ha
end Go.Mu
namespace Go.Mu
open Go Go.Proofs
theorem foldl_cong {α β : Type} {f g : β → α → β} : ∀ (l : List α) (b : β), (∀ a ∈ l, ∀ b, f b a = g b a) → l.foldl f b = l.foldl g b
 | [], b, _ => rfl
 | a :: l, b, h => by rw [List.foldl_cons, List.foldl_cons, h a (List.mem_cons_self ..), foldl_cong l _ (fun x hx => h x (List.mem_cons_of_mem _ hx))]
theorem wfV_up : ∀ (d : Nat) (x : AVal), wfV d x → wfV (d + 1) x ∧ cntV (d + 1) x = cntV d x ∧ dpV (d + 1) x = dpV d x
 | 0, x, h => h.elim
 | d + 1, x, h => by
  obtain ⟨h1, h2, h3⟩ := h
  have ih : ∀ n ∈ nodes x, (wfV (d + 1) n.body ∧ cntV (d + 1) n.body = cntV d n.body ∧ dpV (d + 1) n.body = dpV d n.body) ∧ (wfV (d + 1) n.els ∧ cntV (d + 1) n.els = cntV d n.els ∧ dpV (d + 1) n.els = dpV d n.els) := fun n hn => ⟨wfV_up d _ (h3 n hn).1, wfV_up d _ (h3 n hn).2⟩
  refine ⟨⟨h1, h2, fun n hn => ⟨(ih n hn).1.1, (ih n hn).2.1⟩⟩, ?_, ?_⟩
  · rw [cntV, cntV]
    congr 2
    refine List.map_congr_left (fun n hn => ?_)
    rw [(ih n hn).1.2.1, (ih n hn).2.2.1]
  · rw [dpV, dpV]
    refine foldl_cong _ _ (fun n hn b => ?_)
    unfold dpF
    rw [(ih n hn).1.2.2, (ih n hn).2.2.2]
def cN (j : Nat) (n : NdD) : Nat := 1 + (cntV j n.body + cntV j n.els)
def cL (j : Nat) (l : List NdD) : Nat := (l.map (cN j)).sum
def OkN (j : Nat) (n : NdD) : Prop := (wfV j n.body ∧ dpV j n.body ≤ j - 1) ∧ (wfV j n.els ∧ dpV j n.els ≤ j - 1)
theorem cL_len (j : Nat) : ∀ l : List NdD, cL j l = l.length + (l.map (fun n => cntV j n.body + cntV j n.els)).sum
 | [] => rfl
 | n :: l => by
  have ih := cL_len j l
  unfold cL at ih ⊢
  rw [List.map_cons, List.sum_cons, List.map_cons, List.sum_cons, ih, List.length_cons]
  unfold cN
  omega
theorem cL_snoc (j : Nat) (l : List NdD) (n : NdD) : cL j (l ++ [n]) = cL j l + cN j n := by
 unfold cL
 rw [List.map_append, List.sum_append]
 simp
theorem dp_fold {d : Nat} {f : AVal → Nat} : ∀ (l : List NdD) (m : Nat), m ≤ d → (∀ n ∈ l, 1 + max (f n.body) (f n.els) ≤ d) → l.foldl (dpF f) m ≤ d
 | [], m, hm, _ => hm
 | n :: l, m, hm, h => by
  rw [List.foldl_cons]
  refine dp_fold l _ ?_ (fun x hx => h x (List.mem_cons_of_mem _ hx))
  have := h n (List.mem_cons_self ..)
  unfold dpF; omega
theorem list_up {j : Nat} (hj : 1 ≤ j) {l : List NdD} (x : AVal) (hx : nodes x = l) (hw : wfL wfNd x = true) (hl : lenL x ≤ 1099511627776) (h : ∀ n ∈ l, OkN j n) : wfV (j + 1) x ∧ dpV (j + 1) x ≤ j ∧ cntV (j + 1) x = cL j l := by
 subst hx
 refine ⟨⟨hw, hl, fun n hn => ⟨(h n hn).1.1, (h n hn).2.1⟩⟩, ?_, ?_⟩
 · rw [dpV]
   refine dp_fold _ 0 (Nat.zero_le _) (fun n hn => ?_)
   obtain ⟨⟨_, h1⟩, ⟨_, h2⟩⟩ := h n hn
   omega
 · rw [cL_len, cntV]
theorem body_up {j : Nat} (hj : 1 ≤ j) {l : List NdD} (hl : l.length ≤ 1099511627776) (h : ∀ n ∈ l, OkN j n) : wfV (j + 1) (bodyV l) ∧ dpV (j + 1) (bodyV l) ≤ j ∧ cntV (j + 1) (bodyV l) = cL j l :=
 list_up hj (bodyV l) (nodes_enc false l) (wfL_encL wfNd_enc l) hl h
theorem one_up {j : Nat} (hj : 1 ≤ j) {n : NdD} (h : OkN j n) : wfV (j + 1) (oneV n) ∧ dpV (j + 1) (oneV n) ≤ j ∧ cntV (j + 1) (oneV n) = cN j n := by
 have e : nodes (oneV n) = [n] := rfl
 have hw : wfL wfNd (oneV n) = true := by
  show (List.range 1).all (fun i => wfNd ([encNd n].getD i [])) = true
  simp only [List.range_one, List.all_cons, List.all_nil, Bool.and_true]
  exact wfNd_enc n
 obtain ⟨h1, h2, h3⟩ := list_up hj (oneV n) e hw (by show 1 ≤ _; omega) (fun x hx => by rw [List.mem_singleton] at hx; rw [hx]; exact h)
 refine ⟨h1, h2, h3.trans ?_⟩
 unfold cL; simp
theorem nil_up {j : Nat} (hj : 1 ≤ j) : wfV j nilList ∧ dpV j nilList ≤ j - 1 ∧ cntV j nilList = 0 := by
 obtain ⟨i, rfl⟩ : ∃ i, j = i + 1 := ⟨j - 1, by omega⟩
 refine ⟨⟨rfl, by show 0 ≤ _; omega, fun n hn => ?_⟩, ?_, ?_⟩
 · have : nodes nilList = [] := rfl
   rw [this] at hn; cases hn
 · rw [dpV]; exact Nat.zero_le _
 · rw [cntV]; rfl
theorem mk_body (k : Int) (t n : Nm) (p b e : AVal) (a : Int) (hb : ∃ f n r, b = .list f n r) (he : ∃ f n r, e = .list f n r) : (mkNd k t n p b e a).body = b ∧ (mkNd k t n p b e a).els = e := by
 obtain ⟨_, _, _, rfl⟩ := hb
 obtain ⟨_, _, _, rfl⟩ := he
 exact ⟨rfl, rfl⟩
theorem leaf_ok {j : Nat} (hj : 1 ≤ j) (k : Int) (t n : Nm) (p : AVal) (a : Int) : OkN j (mkNd k t n p nilList nilList a) ∧ cN j (mkNd k t n p nilList nilList a) = 1 := by
 obtain ⟨e1, e2⟩ := mk_body k t n p nilList nilList a ⟨_, _, _, rfl⟩ ⟨_, _, _, rfl⟩
 obtain ⟨h1, h2, h3⟩ := nil_up hj
 unfold OkN cN
 rw [e1, e2, h3]
 exact ⟨⟨⟨h1, h2⟩, ⟨h1, h2⟩⟩, rfl⟩
def OkD (d : DfD) : Prop := wfV 18 d.body ∧ dpV 18 d.body ≤ 17
def Tot (l : List DfD) : Nat := sumD 18 l
def NmOk (l : List DfD) : Prop := 1 ≤ l.length ∧ ∀ i, i < l.length → (i == 0) = ((l.getD i df0).name == [])
structure InvP (L : Nat) (s : PsD) : Prop where
 it : ∀ x ∈ s.items, okPl L x
 left : s.left = (L : Int)
 z0 : 0 ≤ s.size
 z1 : s.size ≤ 1024
 tot : (Tot s.defs : Int) ≤ s.size
 defs : ∀ d ∈ s.defs, OkD d
 nm : NmOk s.defs
def PcPl (L : Nat) (w : PcD) : Prop := 0 ≤ w.at_ ∧ w.at_ ≤ (L : Int) ∧ ∀ x ∈ w.words, (x.at_ : Int) ≤ (L : Int)
def inP (L : Nat) (a : Int) : Prop := 0 ≤ a ∧ a ≤ (L : Int)
def BadIn {α : Type} (L : Nat) (r : PRes α) : Prop := ∀ b, r.bad = some b → inP L b.1 ∧ b.2 ≠ 0
theorem badIn_ok {α : Type} {L : Nat} {v : α} {s : PsD} : BadIn L (psOk v s) := fun b h => by simp [psOk] at h
theorem badIn_bad {α : Type} {L : Nat} {v : α} {a e : Int} {s : PsD} (h : inP L a) (he : e ≠ 0 := by decide) : BadIn L (psBad v a e s) := fun b hb => by
 simp only [psBad, Option.some.injEq] at hb
 rw [← hb]; exact ⟨h, he⟩
theorem badIn_bif {α : Type} {L : Nat} {c : Bool} {a b : PRes α} (h1 : c = true → BadIn L a) (h2 : c = false → BadIn L b) : BadIn L (bif c then a else b) := by
 cases c
 · exact h2 rfl
 · exact h1 rfl
theorem badIn_then {α β : Type} {L : Nat} {r : PRes α} {d : β} {f : α → PsD → PRes β} (h : BadIn L r) (hf : r.bad = none → BadIn L (f r.v r.s)) : BadIn L (r.andThen d f) := by
 unfold PRes.andThen
 cases e : r.bad with
 | some b => intro b' hb; simp only [Option.some.injEq] at hb; rw [← hb]; exact h b e
 | none => exact hf e
theorem badIn_count {L : Nat} {a : Int} (h : inP L a) (s : PsD) : BadIn L (countP a s) := badIn_bif (fun _ => badIn_ok) (fun _ => badIn_bad h)
theorem badIn_pipe {L : Nat} {w : PcD} (h : PcPl L w) (n : Nat) (s : PsD) : BadIn L (pipeP w n s) := badIn_bif (fun _ => badIn_ok) (fun hc => badIn_bad (parR_pl (Q := inP L) ⟨Int.le_refl _, by omega⟩ _ _ (fun x hx => ⟨by omega, h.2.2 x (List.mem_of_mem_drop hx)⟩) ⟨h.1, h.2.1⟩) (by simpa using hc))
theorem badIn_called {L : Nat} {w : PcD} (h : PcPl L w) (s : PsD) : BadIn L (calledP w s) := badIn_bif (fun _ => badIn_bif (fun _ => badIn_ok) (fun _ => badIn_bad ⟨h.1, h.2.1⟩)) (fun _ => badIn_bad ⟨h.1, h.2.1⟩)
theorem badIn_words {L : Nat} {x : ItemD} (h : okPl L x) (hk : x.kind ≠ 1) (s : PsD) : BadIn L (wordsP x s) := by
 obtain ⟨h1, h2, h3, h4⟩ := h
 have h5 : x.at_ + x.text.length ≤ (L : Int) := by rcases h4 with h | h; exact absurd h hk; exact h.2
 refine badIn_bif (fun _ => badIn_bif (fun _ => badIn_ok) (fun _ => badIn_bad ⟨h2, h3⟩)) (fun hc => badIn_bad ?_ (by simpa using hc))
 unfold wdsA inP
 cases hs : (wordsE x.text).isSome with
 | true =>
  have := wdAt_le x.text hs
  simp only [cond_true]; omega
 | false => exact ⟨h2, h3⟩
theorem words_pl {L : Nat} {x : ItemD} (h : okPl L x) (hk : x.kind ≠ 1) (s : PsD) (hb : (wordsP x s).bad = none) : PcPl L (wordsP x s).v := by
 obtain ⟨h1, h2, h3, h4⟩ := h
 have h5 : x.at_ + x.text.length ≤ (L : Int) := by rcases h4 with h | h; exact absurd h hk; exact h.2
 unfold wordsP at hb ⊢
 cases he : wdsE x == 0 with
 | false => rw [he] at hb; simp [psBad] at hb
 | true =>
  rw [he] at hb
  simp only [cond_true] at hb ⊢
  cases hl : decide (0 < (wdsL x).length) with
  | false => rw [hl] at hb; simp [psBad] at hb
  | true =>
   refine ⟨h2, h3, fun y hy => ?_⟩
   replace hy : y ∈ wdsL x := hy
   unfold wdsL at hy
   cases hs : (wordsE x.text).isSome with
   | true => rw [hs] at hy; simp at hy
   | false =>
    rw [hs] at hy
    simp only [cond_false, List.mem_map] at hy
    obtain ⟨z, hz, rfl⟩ := hy
    have := (wdsM_pl x.text.length x.text 0).1 z hz
    show ((x.at_.toNat + z.at_ : Nat) : Int) ≤ (L : Int)
    omega
theorem badIn_single {L : Nat} {w : PcD} (h : PcPl L w) (s : PsD) : BadIn L (singleP w s) := by
 unfold singleP
 refine badIn_then (badIn_count ⟨h.1, h.2.1⟩ _) (fun _ => badIn_bif (fun _ => badIn_then (badIn_called h _) (fun _ => badIn_bif (fun _ => badIn_then (badIn_pipe h _ _) (fun _ => badIn_ok)) (fun _ => badIn_ok))) (fun _ => badIn_bif (fun _ => badIn_bif (fun _ => badIn_then (badIn_pipe h _ _) (fun _ => badIn_ok)) (fun _ => badIn_bad ⟨h.1, h.2.1⟩)) (fun _ => badIn_then (badIn_pipe h _ _) (fun _ => badIn_ok))))
theorem InvP.count {L : Nat} {s : PsD} (h : InvP L s) {a : Int} (hb : (countP a s).bad = none) : InvP L (countP a s).s ∧ (countP a s).s.size = s.size + 1 ∧ (countP a s).s.defs = s.defs ∧ (countP a s).s.items = s.items := by
 unfold countP at hb ⊢
 by_cases hc : s.size < 1024
 · rw [dT hc]
   simp only [cond_true, psOk]
   refine ⟨⟨h.it, h.left, ?_, ?_, ?_, h.defs, h.nm⟩, by trivial, by trivial, by trivial⟩
   · have := h.z0; show 0 ≤ s.size + 1; omega
   · show s.size + 1 ≤ 1024; omega
   · have := h.tot; show (Tot s.defs : Int) ≤ s.size + 1; omega
 · rw [dF hc] at hb; simp [psBad] at hb
def Went (L : Nat) (c : Nat) (s t : PsD) : Prop := InvP L t ∧ (c : Int) + (Tot t.defs : Int) + s.size ≤ (Tot s.defs : Int) + t.size
theorem single_good {L : Nat} {j : Nat} (hj : 1 ≤ j) {w : PcD} {s : PsD} (h : InvP L s) (hb : (singleP w s).bad = none) : OkN j (singleP w s).v ∧ cN j (singleP w s).v = 1 ∧ Went L 1 s (singleP w s).s := by
 unfold singleP at hb ⊢
 obtain ⟨h1, h2⟩ := at_none hb
 rw [h2] at hb ⊢
 obtain ⟨g1, g2, g3, g4⟩ := h.count h1
 have gw : Went L 1 s (countP w.at_ s).s := ⟨g1, by rw [g3, g2]; omega⟩
 revert hb gw
 generalize (countP w.at_ s).s = s1
 intro hb gw
 have pp : ∀ n (k : Int) (nm : Nm), ((pipeP w n s1).andThen nd0 fun p s => psOk (mkNd k [] nm (pipeV p) nilList nilList w.at_) s).bad = none →
  OkN j ((pipeP w n s1).andThen nd0 fun p s => psOk (mkNd k [] nm (pipeV p) nilList nilList w.at_) s).v ∧ cN j ((pipeP w n s1).andThen nd0 fun p s => psOk (mkNd k [] nm (pipeV p) nilList nilList w.at_) s).v = 1 ∧ Went L 1 s ((pipeP w n s1).andThen nd0 fun p s => psOk (mkNd k [] nm (pipeV p) nilList nilList w.at_) s).s := fun n k nm hb => by
  obtain ⟨_, h2⟩ := at_none hb
  rw [h2]
  have hl := leaf_ok hj k [] nm (pipeV (pipeP w n s1).v) w.at_
  refine ⟨hl.1, hl.2, ?_⟩
  show Went L 1 s (pipeP w n s1).s
  rw [pipe_it]; exact gw
 cases hT : w.head == sTemplate with
 | true =>
  rw [hT] at hb
  simp only [cond_true] at hb ⊢
  obtain ⟨_, h3⟩ := at_none hb
  rw [h3] at hb ⊢
  have hcs : (calledP w s1).s = s1 := called_it w s1
  revert hb
  generalize (calledP w s1).v = nm
  rw [hcs]
  intro hb
  cases hl2 : decide (2 < w.words.length) with
  | true => rw [hl2] at hb; exact pp 2 6 nm hb
  | false =>
   have hl := leaf_ok hj 6 [] nm nilList w.at_
   exact ⟨hl.1, hl.2, gw⟩
 | false =>
  rw [hT] at hb
  simp only [cond_false] at hb ⊢
  cases hv : (w.words.getD 0 wd0).kind == 3 && decide (1 < w.words.length) && (w.words.getD 1 wd0).text == [58, 61] && (w.words.getD 1 wd0).kind == 6 with
  | true =>
   rw [hv] at hb
   simp only [cond_true] at hb ⊢
   cases hn : nameB (w.words.getD 0 wd0).text.tail with
   | true => rw [hn] at hb; exact pp 2 7 _ hb
   | false => rw [hn] at hb; simp [psBad] at hb
  | false => rw [hv] at hb; exact pp 0 2 _ hb
end Go.Mu
namespace Go.Mu
open Go Go.Proofs
theorem Went.le {L c : Nat} {s t : PsD} (h : Went L c s t) (hs : InvP L s) : (c : Int) ≤ 1024 := by
 have h1 := h.1.z1
 have h2 := hs.tot
 have h3 := h.2
 omega
theorem InvP.pop {L : Nat} {s : PsD} (h : InvP L s) {x : ItemD} {r : List ItemD} (e : s.items = x :: r) : InvP L { s with items := r } ∧ okPl L x :=
 ⟨⟨fun y hy => h.it y (by rw [e]; exact List.mem_cons_of_mem _ hy), h.left, h.z0, h.z1, h.tot, h.defs, h.nm⟩, h.it x (by rw [e]; exact List.mem_cons_self ..)⟩
theorem went_le {L c : Nat} {s t : PsD} (h1 : InvP L t) (h2 : (c : Int) + (Tot t.defs : Int) + s.size ≤ (Tot s.defs : Int) + t.size) (hs : InvP L s) : (c : Int) ≤ 1024 := Went.le ⟨h1, h2⟩ hs
def outOk (j : Nat) (out : List NdD) : Prop := ∀ n ∈ out, OkN j n
theorem outOk_snoc {j : Nat} {out : List NdD} {n : NdD} (h : outOk j out) (hn : OkN j n) : outOk j (out ++ [n]) := fun x hx => by
 rw [List.mem_append, List.mem_singleton] at hx
 rcases hx with hx | rfl
 · exact h x hx
 · exact hn
def LoopG (L j : Nat) (out : List NdD) (s : PsD) (r : LoopR) : Prop := BadIn L r ∧ (r.bad = none → outOk j r.v.1 ∧ (∃ c : Nat, cL j r.v.1 = cL j out + c ∧ Went L c s r.s) ∧ ∀ w, r.v.2 = some w → PcPl L w)
def BlockG (L j : Nat) (s : PsD) (r : PRes NdD) : Prop := BadIn L r ∧ (r.bad = none → OkN j r.v ∧ Went L (cN j r.v) s r.s)
def DefG (L : Nat) (s : PsD) (r : PRes Unit) : Prop := BadIn L r ∧ (r.bad = none → Went L 0 s r.s)
theorem loopG_then {α : Type} {L j : Nat} {out : List NdD} {s : PsD} {r : PRes α} {f : α → PsD → LoopR} (h : BadIn L r) (hf : r.bad = none → LoopG L j out s (f r.v r.s)) : LoopG L j out s (r.andThen (out, none) f) := by
 refine ⟨badIn_then h (fun hb => (hf hb).1), fun hb => ?_⟩
 obtain ⟨h1, h2⟩ := at_none hb
 rw [h2] at hb ⊢
 exact (hf h1).2 hb
theorem loopG_bif {L j : Nat} {out : List NdD} {s : PsD} {c : Bool} {a b : LoopR} (h1 : c = true → LoopG L j out s a) (h2 : c = false → LoopG L j out s b) : LoopG L j out s (bif c then a else b) := by
 cases c
 · exact h2 rfl
 · exact h1 rfl
theorem loopG_bad {L j : Nat} {out : List NdD} {s t : PsD} {v : List NdD × Option PcD} {a e : Int} (h : inP L a) (he : e ≠ 0 := by decide) : LoopG L j out s (psBad v a e t) := ⟨badIn_bad h he, fun hb => by simp [psBad] at hb⟩
theorem blockG_then {α : Type} {L j : Nat} {s : PsD} {r : PRes α} {d : NdD} {f : α → PsD → PRes NdD} (h : BadIn L r) (hf : r.bad = none → BlockG L j s (f r.v r.s)) : BlockG L j s (r.andThen d f) := by
 refine ⟨badIn_then h (fun hb => (hf hb).1), fun hb => ?_⟩
 obtain ⟨h1, h2⟩ := at_none hb
 rw [h2] at hb ⊢
 exact (hf h1).2 hb
theorem blockG_bif {L j : Nat} {s : PsD} {c : Bool} {a b : PRes NdD} (h1 : c = true → BlockG L j s a) (h2 : c = false → BlockG L j s b) : BlockG L j s (bif c then a else b) := by
 cases c
 · exact h2 rfl
 · exact h1 rfl
theorem blockG_bad {L j : Nat} {s t : PsD} {v : NdD} {a e : Int} (h : inP L a) (he : e ≠ 0 := by decide) : BlockG L j s (psBad v a e t) := ⟨badIn_bad h he, fun hb => by simp [psBad] at hb⟩
theorem LoopG.from_ {L j c : Nat} {out out2 : List NdD} {s t : PsD} {r : LoopR} (h : LoopG L j out2 t r) (hc : cL j out2 = cL j out + c) (hw : (c : Int) + (Tot t.defs : Int) + s.size ≤ (Tot s.defs : Int) + t.size) : LoopG L j out s r := by
 refine ⟨h.1, fun hb => ?_⟩
 obtain ⟨h1, ⟨d, h2, h3, h4⟩, h5⟩ := h.2 hb
 exact ⟨h1, ⟨c + d, by omega, h3, by omega⟩, h5⟩
def NodesG (L j : Nat) (s : PsD) (r : PRes (List NdD × PcD)) : Prop := BadIn L r ∧ (r.bad = none → outOk j r.v.1 ∧ Went L (cL j r.v.1) s r.s ∧ (PcPl L r.v.2 ∨ r.v.2 = pc0))
theorem nodesG_of {L j : Nat} {deep : Int} {s : PsD} (hL : s.left = (L : Int)) {r : LoopR} (h : LoopG L j [] s r) : NodesG L j s (r.andThen ([], pc0) (endP deep)) := by
 refine ⟨badIn_then h.1 (fun hb => ?_), fun hb => ?_⟩
 · obtain ⟨_, ⟨c, _, hw, _⟩, _⟩ := h.2 hb
   unfold endP
   cases r.v.2 with
   | some w => exact badIn_ok
   | none => exact badIn_bif (fun _ => badIn_ok) (fun _ => badIn_bad ⟨by rw [hw.left]; omega, by rw [hw.left]; exact Int.le_refl _⟩)
 · obtain ⟨h1, h2⟩ := at_none hb
   obtain ⟨g1, ⟨c, g2, g3⟩, g4⟩ := h.2 h1
   rw [h2] at hb ⊢
   have ev : (endP deep r.v r.s).v.1 = r.v.1 := by
    unfold endP
    cases r.v.2 with
    | some w => rfl
    | none => cases decide (deep = 0) <;> rfl
   have es := end_it deep r.v r.s
   have e0 : cL j [] = 0 := rfl
   rw [e0] at g2
   rw [ev, es]
   refine ⟨g1, by rw [show cL j r.v.1 = c by omega]; exact g3, ?_⟩
   unfold endP
   cases hw : r.v.2 with
   | some w => exact .inl (g4 w hw)
   | none => cases decide (deep = 0) <;> exact .inr rfl
theorem cL_set {j : Nat} : ∀ (l : List NdD) (i : Nat) (n : NdD), i < l.length → cN j n = cN j (l.getD i nd0) → cL j (l.set i n) = cL j l
 | [], i, n, hi, _ => by simp at hi
 | x :: l, 0, n, _, h => by
  unfold cL
  have h : cN j n = cN j x := h
  simp [h]
 | x :: l, i + 1, n, hi, h => by
  have ih := cL_set l i n (by simpa using hi) h
  unfold cL at ih ⊢
  simp only [List.set_cons_succ, List.map_cons, List.sum_cons, ih]
theorem text_good {L j : Nat} (hj : 1 ≤ j) {out : List NdD} {x : ItemD} {s : PsD} (h : InvP L s) (ho : outOk j out) (hb : (textP out x s).bad = none) : outOk j (textP out x s).v ∧ ∃ c : Nat, cL j (textP out x s).v = cL j out + c ∧ Went L c s (textP out x s).s := by
 unfold textP at hb ⊢
 cases hc : decide (0 < out.length) && (lastN out).kind == 1 with
 | true =>
  rw [Bool.and_eq_true, decide_eq_true_eq] at hc
  have hi : out.length - 1 < out.length := by omega
  have hmem : lastN out ∈ out := by
   unfold lastN
   simp only [List.getD_eq_getElem?_getD, List.getElem?_eq_getElem hi, Option.getD_some]
   exact List.getElem_mem hi
  simp only [cond_true, psOk]
  refine ⟨fun n hn => ?_, 0, ?_, h, by omega⟩
  · rcases List.mem_or_eq_of_mem_set hn with hn | rfl
    · exact ho n hn
    · have := ho _ hmem
      exact this
  · exact cL_set out _ _ hi rfl
 | false =>
  rw [hc] at hb
  simp only [cond_false] at hb ⊢
  obtain ⟨h1, h2⟩ := at_none hb
  obtain ⟨g1, g2, g3, g4⟩ := h.count h1
  rw [h2]
  obtain ⟨l1, l2⟩ := leaf_ok hj 1 x.text [] nilList x.at_
  refine ⟨outOk_snoc ho l1, 1, ?_, g1, ?_⟩
  · show cL j (out ++ [mkNd 1 x.text [] nilList nilList nilList x.at_]) = _
    rw [cL_snoc, l2]
  · show (1 : Int) + (Tot (countP x.at_ s).s.defs : Int) + s.size ≤ (Tot s.defs : Int) + (countP x.at_ s).s.size
    rw [g3, g2]; omega
theorem text_badIn {L : Nat} {out : List NdD} {x : ItemD} {s : PsD} (hx : okPl L x) : BadIn L (textP out x s) := badIn_bif (fun _ => badIn_ok) (fun _ => badIn_then (badIn_count ⟨hx.2.1, hx.2.2.1⟩ _) (fun _ => badIn_ok))
theorem Tot_snoc (l : List DfD) (d : DfD) : Tot (l ++ [d]) = Tot l + cntV 18 d.body := by
 unfold Tot sumD
 rw [List.map_append, List.sum_append]
 simp
theorem sum_set {f : DfD → Nat} : ∀ (l : List DfD) (i : Nat) (d : DfD), i < l.length → ((l.set i d).map f).sum + f (l.getD i df0) = (l.map f).sum + f d
 | [], i, d, hi => by simp at hi
 | x :: l, 0, d, _ => by
  show f d + _ + f x = f x + _ + f d
  omega
 | x :: l, i + 1, d, hi => by
  have ih := sum_set (f := f) l i d (by simpa using hi)
  show f x + ((l.set i d).map f).sum + f (l.getD i df0) = f x + (l.map f).sum + f d
  omega
theorem called_name {w : PcD} {s : PsD} (h : (calledP w s).bad = none) : (calledP w s).v ≠ [] := by
 unfold calledP at h ⊢
 cases hk : decide (1 < w.words.length) && (w.words.getD 1 wd0).kind == 5 with
 | false => rw [hk] at h; simp [psBad] at h
 | true =>
  rw [hk] at h
  simp only [cond_true] at h ⊢
  cases hn : nameB (w.words.getD 1 wd0).text with
  | false => rw [hn] at h; simp [psBad] at h
  | true =>
   intro he
   replace he : (w.words.getD 1 wd0).text = [] := he
   rw [he] at hn
   cases hn
theorem defs_then {α β : Type} {r : PRes α} {d : β} {f : α → PsD → PRes β} {n : Nat} (h : n ≤ r.s.defs.length) (hf : r.s.defs.length ≤ (f r.v r.s).s.defs.length) : n ≤ (r.andThen d f).s.defs.length := by
 unfold PRes.andThen
 cases r.bad with
 | some b => exact h
 | none => exact Nat.le_trans h hf
theorem defs_bif {α : Type} {c : Bool} {a b : PRes α} {n : Nat} (h1 : n ≤ a.s.defs.length) (h2 : n ≤ b.s.defs.length) : n ≤ (bif c then a else b).s.defs.length := by cases c <;> assumption
theorem defs_count (a : Int) (s : PsD) : s.defs.length ≤ (countP a s).s.defs.length := defs_bif (Nat.le_refl _) (Nat.le_refl _)
theorem defs_pipe (w : PcD) (n : Nat) (s : PsD) : s.defs.length ≤ (pipeP w n s).s.defs.length := by rw [pipe_it]; exact Nat.le_refl _
theorem defs_called (w : PcD) (s : PsD) : s.defs.length ≤ (calledP w s).s.defs.length := by rw [called_it]; exact Nat.le_refl _
theorem defs_single (w : PcD) (s : PsD) : s.defs.length ≤ (singleP w s).s.defs.length := by
 unfold singleP
 exact defs_then (defs_count _ _) (defs_bif (defs_then (defs_called _ _) (defs_bif (defs_then (defs_pipe _ _ _) (Nat.le_refl _)) (Nat.le_refl _))) (defs_bif (defs_bif (defs_then (defs_pipe _ _ _) (Nat.le_refl _)) (Nat.le_refl _)) (defs_then (defs_pipe _ _ _) (Nat.le_refl _))))
theorem defs_text (out : List NdD) (x : ItemD) (s : PsD) : s.defs.length ≤ (textP out x s).s.defs.length := defs_bif (Nat.le_refl _) (defs_then (defs_count _ _) (Nat.le_refl _))
theorem defs_all : ∀ (f : Nat), (∀ deep out s, s.defs.length ≤ (loopP f deep out s).s.defs.length) ∧ (∀ kind w n deep s, s.defs.length ≤ (blockP f kind w n deep s).s.defs.length) ∧ (∀ w s, s.defs.length ≤ (defineP f w s).s.defs.length)
 | 0 => ⟨fun _ _ _ => Nat.le_refl _, fun _ _ _ _ _ => Nat.le_refl _, fun _ _ => Nat.le_refl _⟩
 | f + 1 => by
  obtain ⟨hl, hb, hd⟩ := defs_all f
  have hn : ∀ deep s, s.defs.length ≤ ((loopP f deep [] s).andThen ([], pc0) (endP deep)).s.defs.length := fun deep s => defs_then (hl _ _ _) (by rw [end_it]; exact Nat.le_refl _)
  refine ⟨fun deep out s => ?_, fun kind w n deep s => ?_, fun w s => ?_⟩
  · rw [loopP]
    cases e : s.items with
    | nil => exact Nat.le_refl _
    | cons x r =>
     refine defs_bif (defs_then (defs_text out x { s with items := r }) (hl _ _ _)) (defs_then (by rw [words_it]; exact Nat.le_refl _) ?_)
     exact defs_bif (defs_bif (Nat.le_refl _) (Nat.le_refl _)) (defs_bif (defs_bif (defs_then (hd _ _) (hl _ _ _)) (Nat.le_refl _)) (defs_bif (defs_then (hb _ _ _ _ _) (hl _ _ _)) (defs_then (defs_single _ _) (hl _ _ _))))
  · rw [blockP]
    refine defs_then (defs_count _ _) (defs_then (defs_pipe _ _ _) (defs_bif (defs_then (hn _ _) ?_) (Nat.le_refl _)))
    exact defs_bif (defs_bif (defs_bif (defs_then (hb _ _ _ _ _) (Nat.le_refl _)) (Nat.le_refl _)) (Nat.le_refl _)) (defs_bif (defs_then (hn _ _) (defs_bif (Nat.le_refl _) (Nat.le_refl _))) (defs_bif (Nat.le_refl _) (Nat.le_refl _)))
  · rw [defineP]
    refine defs_then (defs_called _ _) (defs_bif (defs_bif (Nat.le_refl _) (defs_then (Nat.le_trans ?_ (hn _ _)) (defs_bif ?_ (Nat.le_refl _)))) (Nat.le_refl _))
    · show _ ≤ ((calledP w s).s.defs ++ _).length
      rw [List.length_append]; omega
    · show _ ≤ (List.set _ _ _).length
      rw [List.length_set]; exact Nat.le_refl _
theorem nodes_defs (f : Nat) (deep : Int) (s : PsD) : s.defs.length ≤ ((loopP f deep [] s).andThen ([], pc0) (endP deep)).s.defs.length := defs_then ((defs_all f).1 _ _ _) (by rw [end_it]; exact Nat.le_refl _)
theorem law_all (L : Nat) : ∀ (f : Nat),
 (∀ (deep : Int) (j : Nat) out s, deep + j = 17 → 1 ≤ j → InvP L s → outOk j out → LoopG L j out s (loopP f deep out s)) ∧
 (∀ kind w n (deep : Int) (j : Nat) s, deep + j = 17 → 1 ≤ j → InvP L s → PcPl L w → BlockG L j s (blockP f kind w n deep s)) ∧
 (∀ w s, InvP L s → PcPl L w → DefG L s (defineP f w s))
 | 0 => ⟨fun _ _ _ _ _ _ _ _ => loopG_bad ⟨Int.le_refl _, by omega⟩, fun _ _ _ _ _ _ _ _ _ _ => blockG_bad ⟨Int.le_refl _, by omega⟩, fun _ _ _ _ => ⟨badIn_bad ⟨Int.le_refl _, by omega⟩, fun hb => by simp [defineP, psBad] at hb⟩⟩
 | f + 1 => by
  obtain ⟨hl, hb, hd⟩ := law_all L f
  have hn : ∀ (deep : Int) (j : Nat) s, deep + j = 17 → 1 ≤ j → InvP L s → NodesG L j s ((loopP f deep [] s).andThen ([], pc0) (endP deep)) := fun deep j s h1 h2 h3 => nodesG_of h3.left (hl deep j [] s h1 h2 h3 (fun n hn => by cases hn))
  refine ⟨fun deep j out s hj1 hj2 hs ho => ?_, fun kind w n deep j s hj1 hj2 hs hw => ?_, fun w s hs hw => ?_⟩
  · rw [loopP]
    cases e : s.items with
    | nil => exact ⟨badIn_ok, fun _ => ⟨ho, ⟨0, rfl, hs, by show (0 : Int) + (Tot s.defs : Int) + s.size ≤ (Tot s.defs : Int) + s.size; omega⟩, fun w hw => by simp [psOk] at hw⟩⟩
    | cons x r =>
     obtain ⟨hs1, hx⟩ := hs.pop e
     have hdef : ({ s with items := r } : PsD).defs = s.defs := rfl
     refine loopG_bif (fun hk => ?_) (fun hk => ?_)
     · refine loopG_then (text_badIn hx) (fun hb1 => ?_)
       obtain ⟨t1, c, t2, t3, t4⟩ := text_good hj2 hs1 ho hb1
       exact (hl deep j _ _ hj1 hj2 t3 t1).from_ t2 t4
     · have hk1 : x.kind ≠ 1 := fun h => by rw [h] at hk; simp at hk
       refine loopG_then (badIn_words hx hk1 _) (fun hb1 => ?_)
       have hwp := words_pl hx hk1 _ hb1
       rw [words_it]
       revert hwp
       generalize (wordsP x { s with items := r }).v = w
       intro hwp
       have hat : inP L w.at_ := ⟨hwp.1, hwp.2.1⟩
       refine loopG_bif (fun _ => loopG_bif (fun _ => ?_) (fun _ => loopG_bad hat)) (fun _ => loopG_bif (fun _ => loopG_bif (fun _ => ?_) (fun _ => loopG_bad hat)) (fun _ => loopG_bif (fun _ => ?_) (fun _ => ?_)))
       · exact ⟨badIn_ok, fun _ => ⟨ho, ⟨0, rfl, hs1, by show (0 : Int) + (Tot s.defs : Int) + s.size ≤ (Tot s.defs : Int) + s.size; omega⟩, fun u hu => by
          have : w = u := by simpa [psOk] using hu
          rw [← this]; exact hwp⟩⟩
       · refine loopG_then (hd w _ hs1 hwp).1 (fun hb2 => ?_)
         obtain ⟨d1, d2⟩ := (hd w _ hs1 hwp).2 hb2
         exact (hl deep j _ _ hj1 hj2 d1 ho).from_ (c := 0) rfl d2
       · refine loopG_then (hb _ w 1 deep j _ hj1 hj2 hs1 hwp).1 (fun hb2 => ?_)
         obtain ⟨d0, d1, d2⟩ := (hb _ w 1 deep j _ hj1 hj2 hs1 hwp).2 hb2
         exact (hl deep j _ _ hj1 hj2 d1 (outOk_snoc ho d0)).from_ (cL_snoc _ _ _) d2
       · refine loopG_then (badIn_single hwp _) (fun hb2 => ?_)
         obtain ⟨d0, d3, d1, d2⟩ := single_good hj2 hs1 hb2
         exact (hl deep j _ _ hj1 hj2 d1 (outOk_snoc ho d0)).from_ (c := 1) (by rw [cL_snoc, d3]) d2
  · have hat : inP L w.at_ := ⟨hw.1, hw.2.1⟩
    rw [blockP]
    refine blockG_then (badIn_count hat _) (fun hb1 => ?_)
    obtain ⟨g1, g2, g3, g4⟩ := hs.count hb1
    revert g1 g2 g3
    generalize (countP w.at_ s).s = s1
    intro g1 g2 g3
    refine blockG_then (badIn_pipe hw _ _) (fun _ => ?_)
    rw [pipe_it]
    generalize (pipeP w n s1).v = p
    refine blockG_bif (fun h16 => ?_) (fun _ => blockG_bad hat)
    have h16 := of_decide_eq_true h16
    have hj : (deep + 1) + ((j - 1 : Nat) : Int) = 17 := by omega
    have hn1 := hn (deep + 1) (j - 1) s1 hj (by omega) g1
    have hnb : NodesG L (j - 1) s1 ((loopP f (deep + 1) [] s1).andThen ([], pc0) (endP (deep + 1))) := hn1
    refine blockG_then hn1.1 (fun hb2 => ?_)
    have hall := hn1.2 hb2
    revert hall
    generalize ((loopP f (deep + 1) [] s1).andThen ([], pc0) (endP (deep + 1))).v = be
    generalize ((loopP f (deep + 1) [] s1).andThen ([], pc0) (endP (deep + 1))).s = s2
    intro hall
    obtain ⟨b1, ⟨b2, b3⟩, b4⟩ := hall
    have hbl : be.1.length ≤ 1024 := by
     have h1 := went_le b2 b3 g1
     rw [cL_len] at h1; omega
    have hjj : j - 1 + 1 = j := by omega
    obtain ⟨u1, u2, u3⟩ := body_up (by omega) (by omega) b1
    rw [hjj] at u1 u2 u3
    have e2at : inP L be.2.at_ := by
     rcases b4 with h | h
     · exact ⟨h.1, h.2.1⟩
     · rw [h]; exact ⟨Int.le_refl _, by show (0 : Int) ≤ (L : Int); omega⟩
    have fin : ∀ (els : AVal) (c : Nat) (s3 : PsD), (∃ f n r, els = .list f n r) → wfV j els → dpV j els ≤ j - 1 → cntV j els = c → InvP L s3 → (c : Int) + (Tot s3.defs : Int) + s2.size ≤ (Tot s2.defs : Int) + s3.size →
     BlockG L j s (psOk (mkNd kind [] [] (pipeV p) (bodyV be.1) els w.at_) s3) := fun els c s3 hf h1 h2 h3 h4 h5 => by
     obtain ⟨m1, m2⟩ := mk_body kind [] [] (pipeV p) (bodyV be.1) els w.at_ ⟨_, _, _, rfl⟩ hf
     refine ⟨badIn_ok, fun _ => ⟨?_, h4, ?_⟩⟩
     · show OkN j (mkNd kind [] [] (pipeV p) (bodyV be.1) els w.at_)
       unfold OkN
       rw [m1, m2]
       exact ⟨⟨u1, u2⟩, ⟨h1, h2⟩⟩
     · show ((cN j (mkNd kind [] [] (pipeV p) (bodyV be.1) els w.at_) : Nat) : Int) + (Tot s3.defs : Int) + s.size ≤ (Tot s.defs : Int) + s3.size
       unfold cN
       rw [m1, m2, u3, h3]
       rw [g2, g3] at b3
       omega
    refine blockG_bif (fun he => blockG_bif (fun _ => blockG_bif (fun h17 => ?_) (fun _ => blockG_bad e2at)) (fun _ => blockG_bad e2at)) (fun he0 => blockG_bif (fun he => ?_) (fun _ => blockG_bif (fun _ => ?_) (fun _ => blockG_bad e2at)))
    · have h17 := of_decide_eq_true h17
      have hpl : PcPl L be.2 := by
       rcases b4 with h | h
       · exact h
       · rw [h] at he; cases he
      have hbk := hb 3 be.2 2 (deep + 1) (j - 1) s2 hj (by omega) b2 hpl
      refine blockG_then hbk.1 (fun hb3 => ?_)
      obtain ⟨d0, d1, d2⟩ := hbk.2 hb3
      obtain ⟨o1, o2, o3⟩ := one_up (by omega) d0
      rw [hjj] at o1 o2 o3
      exact fin _ _ _ ⟨_, _, _, rfl⟩ o1 o2 o3 d1 d2
    · have hn2 := hn (deep + 1) (j - 1) s2 hj (by omega) b2
      refine blockG_then hn2.1 (fun hb3 => ?_)
      have hall := hn2.2 hb3
      revert hall
      generalize ((loopP f (deep + 1) [] s2).andThen ([], pc0) (endP (deep + 1))).v = ee
      generalize ((loopP f (deep + 1) [] s2).andThen ([], pc0) (endP (deep + 1))).s = s3
      intro hall
      obtain ⟨c1, ⟨c2, c3⟩, c4⟩ := hall
      have hel : ee.1.length ≤ 1024 := by
       have h1 := went_le c2 c3 b2
       rw [cL_len] at h1; omega
      obtain ⟨v1, v2, v3⟩ := body_up (by omega) (by omega) c1
      rw [hjj] at v1 v2 v3
      have e3at : inP L ee.2.at_ := by
       rcases c4 with h | h
       · exact ⟨h.1, h.2.1⟩
       · rw [h]; exact ⟨Int.le_refl _, by show (0 : Int) ≤ (L : Int); omega⟩
      exact blockG_bif (fun _ => fin _ _ _ ⟨_, _, _, rfl⟩ v1 v2 v3 c2 c3) (fun _ => blockG_bad e3at)
    · obtain ⟨v1, v2, v3⟩ := nil_up hj2
      exact fin _ 0 _ ⟨_, _, _, rfl⟩ v1 v2 v3 b2 (by omega)
  · have hat : inP L w.at_ := ⟨hw.1, hw.2.1⟩
    rw [defineP]
    have dg_then : ∀ {α : Type} (r : PRes α) (g : α → PsD → PRes Unit), BadIn L r → (r.bad = none → DefG L s (g r.v r.s)) → DefG L s (r.andThen () g) := fun r g h1 h2 => by
     refine ⟨badIn_then h1 (fun hb => (h2 hb).1), fun hb => ?_⟩
     obtain ⟨k1, k2⟩ := at_none hb
     rw [k2] at hb ⊢
     exact (h2 k1).2 hb
    have dg_bad : ∀ (a e : Int) (t : PsD), inP L a → e ≠ 0 → DefG L s (psBad () a e t) := fun a e t h he => ⟨badIn_bad h he, fun hb => by simp [psBad] at hb⟩
    have dg_bif : ∀ (c : Bool) (a b : PRes Unit), (c = true → DefG L s a) → (c = false → DefG L s b) → DefG L s (bif c then a else b) := fun c a b h1 h2 => by
     cases c
     · exact h2 rfl
     · exact h1 rfl
    refine dg_then _ _ (badIn_called hw _) (fun hb1 => ?_)
    have hnm := called_name hb1
    rw [called_it]
    revert hnm
    generalize (calledP w s).v = name
    intro hnm
    refine dg_bif _ _ _ (fun _ => dg_bif _ _ _ (fun _ => dg_bad _ _ _ hat (by decide)) (fun hany => ?_)) (fun _ => dg_bad _ _ _ hat (by decide))
    obtain ⟨z1, z2, z3⟩ := nil_up (j := 18) (by omega)
    have hi1 : InvP L { s with defs := s.defs ++ [mkDf name nilList], ver := s.ver + 1 } := by
     refine ⟨hs.it, hs.left, hs.z0, hs.z1, ?_, fun d hdm => ?_, ?_⟩
     · show (Tot (s.defs ++ [mkDf name nilList]) : Int) ≤ s.size
       rw [Tot_snoc]
       have : cntV 18 (mkDf name nilList).body = 0 := z3
       rw [this]
       have := hs.tot
       omega
     · replace hdm : d ∈ s.defs ++ [mkDf name nilList] := hdm
       rw [List.mem_append, List.mem_singleton] at hdm
       rcases hdm with h | rfl
       · exact hs.defs d h
       · exact ⟨z1, by have := z2; exact this⟩
     · obtain ⟨n1, n2⟩ := hs.nm
       refine ⟨by show 1 ≤ (s.defs ++ [mkDf name nilList]).length; rw [List.length_append]; omega, fun i hi => ?_⟩
       replace hi : i < (s.defs ++ [mkDf name nilList]).length := hi
       rw [List.length_append, List.length_singleton] at hi
       show (i == 0) = (((s.defs ++ [mkDf name nilList]).getD i df0).name == [])
       rcases Nat.lt_or_ge i s.defs.length with h | h
       · have e : (s.defs ++ [mkDf name nilList]).getD i df0 = s.defs.getD i df0 := by
          simp only [List.getD_eq_getElem?_getD, List.getElem?_append_left h]
         rw [e]; exact n2 i h
       · obtain rfl : i = s.defs.length := by omega
         have e : (s.defs ++ [mkDf name nilList]).getD s.defs.length df0 = mkDf name nilList := by
          simp [List.getD_eq_getElem?_getD]
         rw [e]
         have e1 : (s.defs.length == 0) = false := by simpa using (by omega : s.defs.length ≠ 0)
         have e2 : ((mkDf name nilList).name == []) = false := by simpa [mkDf] using hnm
         rw [e1, e2]
    have hlen1 : ({ s with defs := s.defs ++ [mkDf name nilList], ver := s.ver + 1 } : PsD).defs.length = s.defs.length + 1 := by show (s.defs ++ [mkDf name nilList]).length = _; rw [List.length_append]; rfl
    have hget1 : ({ s with defs := s.defs ++ [mkDf name nilList], ver := s.ver + 1 } : PsD).defs = s.defs ++ [mkDf name nilList] := rfl
    have htot1 : Tot ({ s with defs := s.defs ++ [mkDf name nilList], ver := s.ver + 1 } : PsD).defs = Tot s.defs := by
     rw [hget1, Tot_snoc]
     have : cntV 18 (mkDf name nilList).body = 0 := z3
     omega
    have hsz1 : ({ s with defs := s.defs ++ [mkDf name nilList], ver := s.ver + 1 } : PsD).size = s.size := rfl
    have hn1 := hn 1 16 _ (by omega) (by omega) hi1
    refine dg_then _ _ hn1.1 (fun hb2 => ?_)
    have hall := hn1.2 hb2
    have hstp : s.defs.length + 1 ≤ ((loopP f 1 [] { s with defs := s.defs ++ [mkDf name nilList], ver := s.ver + 1 }).andThen ([], pc0) (endP 1)).s.defs.length := by
     rw [← hlen1]; exact nodes_defs f 1 _
    revert hall hstp
    generalize ((loopP f 1 [] { s with defs := s.defs ++ [mkDf name nilList], ver := s.ver + 1 }).andThen ([], pc0) (endP 1)).v = be
    generalize ((loopP f 1 [] { s with defs := s.defs ++ [mkDf name nilList], ver := s.ver + 1 }).andThen ([], pc0) (endP 1)).s = s2
    intro hall hstp
    obtain ⟨b1, ⟨b2, b3⟩, b4⟩ := hall
    have e2at : inP L be.2.at_ := by
     rcases b4 with h | h
     · exact ⟨h.1, h.2.1⟩
     · rw [h]; exact ⟨Int.le_refl _, by show (0 : Int) ≤ (L : Int); omega⟩
    have hbl : be.1.length ≤ 1024 := by
     have h1 := went_le b2 b3 hi1
     rw [cL_len] at h1; omega
    obtain ⟨u1, u2, u3⟩ := body_up (by omega) (by omega) b1
    obtain ⟨w1, w2, w3⟩ := wfV_up 17 _ u1
    refine dg_bif _ _ _ (fun _ => ⟨badIn_ok, fun _ => ?_⟩) (fun _ => dg_bad _ _ _ e2at (by decide))
    have hi2 : s.defs.length < s2.defs.length := by omega
    have hmem2 : s2.defs.getD s.defs.length df0 ∈ s2.defs := by
     simp only [List.getD_eq_getElem?_getD, List.getElem?_eq_getElem hi2, Option.getD_some]
     exact List.getElem_mem hi2
    have hbody : (mkDf (s2.defs.getD s.defs.length df0).name (bodyV be.1)).body = bodyV be.1 := rfl
    have hsum := sum_set (f := fun x => cntV 18 x.body) s2.defs s.defs.length (mkDf (s2.defs.getD s.defs.length df0).name (bodyV be.1)) hi2
    have hT : Tot (s2.defs.set s.defs.length (mkDf (s2.defs.getD s.defs.length df0).name (bodyV be.1))) ≤ Tot s2.defs + cL 16 be.1 := by
     have e : cntV 18 (mkDf (s2.defs.getD s.defs.length df0).name (bodyV be.1)).body = cL 16 be.1 := by rw [hbody, w2, u3]
     rw [e] at hsum
     unfold Tot sumD
     omega
    rw [htot1, hsz1] at b3
    have htot := hs.tot
    refine ⟨⟨b2.it, b2.left, b2.z0, b2.z1, ?_, fun d hdm => ?_, ?_⟩, ?_⟩
    · show (Tot (s2.defs.set s.defs.length (mkDf (s2.defs.getD s.defs.length df0).name (bodyV be.1))) : Int) ≤ s2.size
      omega
    · rcases List.mem_or_eq_of_mem_set hdm with h | rfl
      · exact b2.defs d h
      · unfold OkD
        rw [hbody]
        exact ⟨w1, by have : dpV 17 (bodyV be.1) ≤ 16 := u2; rw [w3]; omega⟩
    · obtain ⟨n1, n2⟩ := b2.nm
      refine ⟨by show 1 ≤ (s2.defs.set _ _).length; rw [List.length_set]; exact n1, fun i hi => ?_⟩
      replace hi : i < (s2.defs.set s.defs.length (mkDf (s2.defs.getD s.defs.length df0).name (bodyV be.1))).length := hi
      rw [List.length_set] at hi
      show (i == 0) = (((s2.defs.set s.defs.length (mkDf (s2.defs.getD s.defs.length df0).name (bodyV be.1))).getD i df0).name == [])
      have e : ((s2.defs.set s.defs.length (mkDf (s2.defs.getD s.defs.length df0).name (bodyV be.1))).getD i df0).name = (s2.defs.getD i df0).name := by
       by_cases h : i = s.defs.length
       · subst h
         simp only [List.getD_eq_getElem?_getD, List.getElem?_set_self hi, Option.getD_some]
         rfl
       · simp only [List.getD_eq_getElem?_getD, List.getElem?_set_ne (Ne.symm h)]
      rw [e]; exact n2 i hi
    · show (0 : Int) + (Tot (s2.defs.set s.defs.length (mkDf (s2.defs.getD s.defs.length df0).name (bodyV be.1))) : Int) + s.size ≤ (Tot s.defs : Int) + s2.size
      omega
end Go.Mu
namespace Go.Mu
open Go Go.Proofs
theorem getD_memL {α : Type} {l : List α} {i : Nat} {d : α} (h : i < l.length) : l.getD i d ∈ l := by
 simp only [List.getD_eq_getElem?_getD, List.getElem?_eq_getElem h, Option.getD_some]
 exact List.getElem_mem h
theorem ps1_inv (s : Oc) (hs : s.length ≤ 16384) (hb : itBad s = false) : InvP s.length (ps1 s) := by
 obtain ⟨h1, h2⟩ := items_ok s hs hb
 obtain ⟨z1, z2, z3⟩ := nil_up (j := 18) (by omega)
 refine ⟨h1, rfl, Int.le_refl _, by show (0 : Int) ≤ 1024; omega, ?_, fun d hd => ?_, ⟨Nat.le_refl _, fun i hi => ?_⟩⟩
 · show ((cntV 18 nilList + 0 : Nat) : Int) ≤ 0
   rw [z3]; exact Int.le_refl _
 · have hd : d ∈ [mkDf [] nilList] := hd
   rw [List.mem_singleton] at hd
   subst hd
   exact ⟨z1, z2⟩
 · have hi : i < 1 := hi
   obtain rfl : i = 0 := by omega
   rfl
theorem pars_law (s : Oc) (hs : s.length ≤ 16384) (hb : itBad s = false) : NodesG s.length 17 (ps1 s) (parsR s) := by
 have hi := ps1_inv s hs hb
 exact nodesG_of hi.left ((law_all s.length _).1 0 17 [] (ps1 s) (by omega) (by omega) hi (fun n hn => by cases hn))
theorem may_bad (s : Oc) (h : parsE s ≠ 0) : parsD s = [] ∧ 0 ≤ parsA s ∧ parsA s ≤ (s.length : Int) := by
 unfold parsE at h
 unfold parsD parsA
 by_cases hl : 16384 < s.length
 · simp only [dT hl, cond_true]
   exact ⟨by trivial, Int.le_refl _, by omega⟩
 simp only [dF hl, cond_false] at h ⊢
 cases hb : itBad s with
 | true =>
  simp only [cond_true]
  have := itPl_le s (by omega) hb
  exact ⟨by trivial, by omega, by omega⟩
 | false =>
  rw [hb] at h
  simp only [cond_false] at h ⊢
  have hg := pars_law s (by omega) hb
  cases hr : (parsR s).bad with
  | some b =>
   simp only [Option.isSome_some, cond_true, Option.getD_some]
   have := (hg.1 b hr).1
   exact ⟨by trivial, this.1, this.2⟩
  | none => rw [hr] at h; simp at h
theorem may_good (s : Oc) (h : parsE s = 0) : mayD (parsD s) ∧ parsA s = (s.length : Int) := by
 unfold parsE at h
 unfold parsD parsA
 by_cases hl : 16384 < s.length
 · simp only [dT hl, cond_true] at h; cases h
 simp only [dF hl, cond_false] at h ⊢
 cases hb : itBad s with
 | true => rw [hb] at h; simp only [cond_true] at h; cases h
 | false =>
  rw [hb] at h
  simp only [cond_false] at h ⊢
  have hg := pars_law s (by omega) hb
  have hok := ps1_ok s (by omega) hb
  have hst := stp_nodesR hok 0
  cases hr : (parsR s).bad with
  | some b =>
   rw [hr] at h
   simp only [Option.isSome_some, cond_true, Option.getD_some] at h
   exact absurd h (hg.1 b hr).2
  | none =>
   simp only [Option.isSome_none, cond_false]
   refine ⟨?_, by trivial⟩
   obtain ⟨g1, ⟨g2, g3⟩, _⟩ := hg.2 hr
   have hi0 := ps1_inv s (by omega) hb
   have hlen : (parsR s).v.1.length ≤ 1024 := by
    have h1 := went_le g2 g3 hi0
    rw [cL_len] at h1; omega
   obtain ⟨u1, u2, u3⟩ := body_up (j := 17) (by omega) (by omega) g1
   have hst : Stp (ps1 s) (parsR s).s := hst
   unfold parsDefs
   generalize (parsR s).v.1 = body at *
   generalize (parsR s).s = s2 at *
   have hsz : (ps1 s).size = 0 := rfl
   have ht0 : Tot (ps1 s).defs = 0 := by
    have := hi0.tot
    rw [hsz] at this; omega
   rw [hsz, ht0] at g3
   have hz1 := g2.z1
   have hd0 : 0 < s2.defs.length := g2.nm.1
   have hbody : (mkDf (s2.defs.getD 0 df0).name (bodyV body)).body = bodyV body := rfl
   have hsum := sum_set (f := fun x => cntV 18 x.body) s2.defs 0 (mkDf (s2.defs.getD 0 df0).name (bodyV body)) hd0
   have hall : ∀ d ∈ s2.defs.set 0 (mkDf (s2.defs.getD 0 df0).name (bodyV body)), OkD d := fun d hd => by
    rcases List.mem_or_eq_of_mem_set hd with h | rfl
    · exact g2.defs d h
    · unfold OkD
      rw [hbody]
      exact ⟨u1, u2⟩
   have htot : sumD 18 (s2.defs.set 0 (mkDf (s2.defs.getD 0 df0).name (bodyV body))) ≤ 1024 := by
    have e : cntV 18 (mkDf (s2.defs.getD 0 df0).name (bodyV body)).body = cL 17 body := by rw [hbody]; exact u3
    have hsum2 : sumD 18 (s2.defs.set 0 (mkDf (s2.defs.getD 0 df0).name (bodyV body))) + cntV 18 (s2.defs.getD 0 df0).body = Tot s2.defs + cL 17 body := by
     rw [← e]; exact hsum
    omega
   refine ⟨?_, fun i hi => ?_, htot⟩
   · rw [List.length_set]
     have := hst.1.2.2.2.2
     omega
   · have hm : (s2.defs.set 0 (mkDf (s2.defs.getD 0 df0).name (bodyV body))).getD i df0 ∈ s2.defs.set 0 (mkDf (s2.defs.getD 0 df0).name (bodyV body)) := getD_memL hi
     obtain ⟨k1, k2⟩ := hall _ hm
     have hc : cntV 18 ((s2.defs.set 0 (mkDf (s2.defs.getD 0 df0).name (bodyV body))).getD i df0).body ≤ 1024 := Nat.le_trans (sum_mem (List.mem_map.2 ⟨_, hm, rfl⟩)) htot
     refine ⟨⟨k1, by omega, by omega⟩, k2, ?_⟩
     rw [List.length_set] at hi
     have e : ((s2.defs.set 0 (mkDf (s2.defs.getD 0 df0).name (bodyV body))).getD i df0).name = (s2.defs.getD i df0).name := by
      by_cases h : i = 0
      · subst h
        simp only [List.getD_eq_getElem?_getD, List.getElem?_set_self hi, Option.getD_some]
        rfl
      · simp only [List.getD_eq_getElem?_getD, List.getElem?_set_ne (Ne.symm h)]
     rw [e]; exact g2.nm.2 i hi
theorem decDfs_enc (f : Bool) (l : List DfD) : decL decDf (encDfs f l) = l := decL_encL (fun d => rfl) l
theorem lay20_ok : lay20.OK Tryz.prog := (((Lay.nil_ok.addF parsTold_ok).addF (szT_ok 18)).addF (dpT_ok 18)).addF (mkFS_ok fun ys xs e h => ⟨_, fun k => rfl, by
 have e : xs = [] := e
 subst e
 exact ((Lay.nil_ok.addF parsTold_ok : layAl20.OK Tryz.prog)).call (fun k => al20_fun k)⟩)
noncomputable abbrev myTurn := lturn Tryz.prog lay20 myFH 4 8 [0,3,4,6,7] [] [0,2,4,6] []
theorem sumD_take (d : Nat) (l : List DfD) (i : Nat) (hi : i < l.length) : sumD d (l.take (i + 1)) = sumD d (l.take i) + cntV d (l.getD i df0).body := by
 unfold sumD
 have e : l.take (i + 1) = l.take i ++ [l.getD i df0] := by
  rw [List.take_succ_eq_append_getElem hi]
  simp only [List.getD_eq_getElem?_getD, List.getElem?_eq_getElem hi, Option.getD_some]
 rw [e, List.map_append, List.sum_append]
 simp
theorem sumD_le (d : Nat) (l : List DfD) (i : Nat) : sumD d (l.take i) ≤ sumD d l := by
 have e : l = l.take i ++ l.drop i := (List.take_append_drop i l).symm
 have : sumD d l = sumD d (l.take i) + sumD d (l.drop i) := by
  conv => lhs; rw [e]
  unfold sumD
  rw [List.map_append, List.sum_append]
 omega
theorem mySp_ok : SpOK myTurn 72 [0,3,4,6,7] [] [0,2,4,6] [] mySp := mkL_ok fun a h => by
 obtain ⟨s, l, n⟩ := a
 obtain ⟨h1, h2, h3⟩ := h
 replace h1 : l.length ≤ 65536 := h1
 replace h2 : ∀ i, i < l.length → szW 18 (l.getD i df0).body ∧ dpV 18 (l.getD i df0).body ≤ 17 ∧ ((i == 0) = ((l.getD i df0).name == [])) := h2
 replace h3 : sumD 18 l ≤ 1024 := h3
 refine ⟨_, _, _, _, fun k => rfl, l.length + 1, fun D k => ?_⟩
 have hrun : ∀ (m i : Nat), i + m = l.length → rounds myTurn (m + 1) (stL 72 [0,3,4,6,7] [.str s, encDfs false l, .int .i64 n, .int .i64 (sumD 18 (l.take i) : Nat), .int .i64 (i : Nat)] [] [] [] D) k = k (.exit 0) (stL 72 [0,2,4,6] [.str s, .undef, .int .i64 n, .int .i64 (sumD 18 l : Nat)] [] [] [] D) := by
  intro m
  induction m with
  | zero =>
   intro i hi
   obtain rfl : i = l.length := by omega
   rw [rounds_succ']
   refine (my_step s l n _ _ D _).trans ?_
   simp only [dF (show ¬ ((l.length : Nat) : Int) < (l.length : Int) by omega), cond_false, List.take_length]
  | succ m ih =>
   intro i hi
   have hil : i < l.length := by omega
   rw [rounds_succ']
   refine (my_step s l n _ _ D _).trans ?_
   obtain ⟨w1, w2, w3⟩ := h2 i hil
   have hs1 := sumD_take 18 l i hil
   have hs2 := sumD_le 18 l (i + 1)
   have t1 : tst (szW 18 (.list (l.getD i df0).ff (l.getD i df0).n (l.getD i df0).row)) = true := tst_true w1
   have w2' : ¬ ((dpV 18 (.list (l.getD i df0).ff (l.getD i df0).n (l.getD i df0).row) : Nat) : Int) > 17 := by
    have : dpV 18 (.list (l.getD i df0).ff (l.getD i df0).n (l.getD i df0).row) ≤ 17 := w2
    omega
   have e1 : IntKind.i64.wrap (((sumD 18 (l.take i) : Nat) : Int) + ((cntV 18 (.list (l.getD i df0).ff (l.getD i df0).n (l.getD i df0).row) : Nat) : Int)) = ((sumD 18 (l.take (i + 1)) : Nat) : Int) := by
    have hb : sumD 18 (l.take (i + 1)) = sumD 18 (l.take i) + cntV 18 (.list (l.getD i df0).ff (l.getD i df0).n (l.getD i df0).row) := hs1
    rw [wrap_of (by omega) (by omega)]; omega
   have ei : ((i : Int) == 0) = (i == 0) := by
    rw [Bool.eq_iff_iff]; simp only [beq_iff_eq]; omega
   have e0 : (DfD.mk [] true 0 fun (x : Nat) => []) = df0 := rfl
   have e3 : (!((l.getD i df0).name == []) == ((l.getD i df0).name == [])) = false := by cases (l.getD i df0).name == [] <;> rfl
   simp only [e0, Int.toNat_natCast, t1, dF w2', dT (show (i : Int) < (l.length : Int) by omega), dT (show (0 : Int) ≤ (i : Int) by omega), Bool.and_self, Bool.true_or, cond_true, cond_false, ei, w3, e3, e1, wrap_add1 (show i < 4611686018427387904 by omega)]
   exact ih (i + 1) (by omega)
 have := hrun l.length 0 (by omega)
 exact this
theorem lay20m_ok : lay20m.OK Tryz.prog := lay20_ok.loop1 (id := 8) (by kernel_rfl) (by kernel_rfl) (by kernel_rfl) mySp_ok
theorem may_true (s : Oc) : CallOK Tryz.prog 4 [.str s] [] (.ret (.bool true) []) := lay20m_ok.call (fun k => (my_fun s k).trans (by
 by_cases h : parsE s = 0
 · obtain ⟨h1, h2⟩ := may_good s h
   have hE : (parsE s != 0) = false := by simp [h]
   have e0 : (DfD.mk [] true 0 fun (x : Nat) => []) = df0 := rfl
   have ed : decL decDf (AVal.list false (parsD s).length fun (i : Nat) => encDf ((parsD s).getD i df0)) = parsD s := decDfs_enc false _
   simp only [hE, cond_false, e0, ed]
   refine cT (tst_true ⟨h1, .refl _, by trivial, by trivial⟩) ?_
   have e1 : (parsA s == (s.length : Int)) = true := by simp [h2]
   rw [e1, dT (show ((sumD 18 (parsD s) : Nat) : Int) ≤ 1024 by have := h1.2.2; omega)]
   rfl
 · obtain ⟨h1, h2, h3⟩ := may_bad s h
   have hE : (parsE s != 0) = true := by simp [h]
   simp only [hE, cond_true, h1, List.length_nil, dT h2, dT h3]
   rfl))
end Go.Mu
namespace Go.Mu
open Go
variable {H : Type}
mutual
theorem size_bulk : ∀ d : DataW H, (tOf d).size ≤ Go.Proofs.YtjaekcceagbefaaGreatDoor.Rows.uptoBulk d
 | .lit (.bool _) => by simp [tOf, T.size, Go.Proofs.YtjaekcceagbefaaGreatDoor.Rows.uptoBulk]
 | .lit (.int _ _) => by simp [tOf, T.size, Go.Proofs.YtjaekcceagbefaaGreatDoor.Rows.uptoBulk]
 | .lit (.string _) => by simp [tOf, T.size, Go.Proofs.YtjaekcceagbefaaGreatDoor.Rows.uptoBulk]
 | .lit (.float _ _) => by simp [tOf, T.size, T.sizes, Go.Proofs.YtjaekcceagbefaaGreatDoor.Rows.uptoBulk]
 | .lit .nil => by simp [tOf, T.size, T.sizes, Go.Proofs.YtjaekcceagbefaaGreatDoor.Rows.uptoBulk]
 | .nil => by simp [tOf, T.size, T.sizes, Go.Proofs.YtjaekcceagbefaaGreatDoor.Rows.uptoBulk]
 | .ptr d => by simp [tOf, T.size, T.sizes, Go.Proofs.YtjaekcceagbefaaGreatDoor.Rows.uptoBulk]
 | .slice es sp => by
  have := size_bulks es
  simp only [tOf, T.size, Go.Proofs.YtjaekcceagbefaaGreatDoor.Rows.uptoBulk]
  omega
 | .agg ps => by
  have := size_bulks ps
  simp only [tOf, T.size, Go.Proofs.YtjaekcceagbefaaGreatDoor.Rows.uptoBulk]
  omega
 | .iface _ d => by simp [tOf, T.size, T.sizes, Go.Proofs.YtjaekcceagbefaaGreatDoor.Rows.uptoBulk]
 | .map _ => by simp [tOf, T.size, T.sizes, Go.Proofs.YtjaekcceagbefaaGreatDoor.Rows.uptoBulk]
 | .held _ => by simp [tOf, T.size, T.sizes, Go.Proofs.YtjaekcceagbefaaGreatDoor.Rows.uptoBulk]
theorem size_bulks : ∀ ds : List (DataW H), T.sizes (tOfs ds) ≤ Go.Proofs.YtjaekcceagbefaaGreatDoor.Rows.uptoBulkAll ds
 | [] => by simp [tOfs, T.sizes, Go.Proofs.YtjaekcceagbefaaGreatDoor.Rows.uptoBulkAll]
 | d :: ds => by
  have := size_bulk d
  have := size_bulks ds
  simp only [tOfs, T.sizes, Go.Proofs.YtjaekcceagbefaaGreatDoor.Rows.uptoBulkAll]
  omega
end
theorem small_size {ds : List (DataW H)} (h : Go.Proofs.YtjaekcceagbefaaGreatDoor.Rows.uptoSmall H ds = true) : T.sizes (tOfs ds) ≤ 1048576 := by
 unfold Go.Proofs.YtjaekcceagbefaaGreatDoor.Rows.uptoSmall at h
 have := size_bulks ds
 have := of_decide_eq_true h
 omega
end Go.Mu
namespace Go.Proofs
open Go.Shelf
def Tryz.uRen : Ren := {
 f := fun x => match x with
  | 260 => 90
  | n => n,
 t := fun x => match x with
  | 0 => 0
  | 3 => 3
  | 4 => 4
  | 5 => 5
  | 9 => 9
  | 21 => 21
  | 46 => 101
  | 119 => 147
  | 138 => 149
  | 139 => 150
  | n => n,
 g := fun x => match x with
  | 3 => 1
  | 4 => 2
  | n => n }
theorem Tryz.uRen_260 : Lays.n260 Tryz.prog Tryz.uRen := {
 mixed := by kernel_rfl
 f260 := Tryz.func90.trans (congrArg some (by kernel_rfl))
 t0 := Tryz.underlying0
 a0 := Tryz.isAgg0
 z0 := Tryz.sizeOf0
 v0 := Tryz.zeroValue0
 t3 := Tryz.underlying3
 a3 := Tryz.isAgg3
 z3 := Tryz.sizeOf3
 v3 := Tryz.zeroValue3
 t4 := Tryz.underlying4
 a4 := Tryz.isAgg4
 z4 := Tryz.sizeOf4
 v4 := Tryz.zeroValue4
 t5 := Tryz.underlying5
 a5 := Tryz.isAgg5
 z5 := Tryz.sizeOf5
 v5 := Tryz.zeroValue5
 t9 := Tryz.underlying9
 a9 := Tryz.isAgg9
 z9 := Tryz.sizeOf9
 v9 := Tryz.zeroValue9
 t21 := Tryz.underlying21
 a21 := Tryz.isAgg21
 z21 := Tryz.sizeOf21
 v21 := Tryz.zeroValue21
 t46 := Tryz.underlying101
 a46 := Tryz.isAgg101
 z46 := Tryz.sizeOf101
 v46 := Tryz.zeroValue101
 t119 := Tryz.underlying147
 a119 := Tryz.isAgg147
 z119 := Tryz.sizeOf147
 t138 := Tryz.underlying149
 a138 := Tryz.isAgg149
 z138 := Tryz.sizeOf149
 v138 := Tryz.zeroValue149
 t139 := Tryz.underlying150
 a139 := Tryz.isAgg150
 z139 := Tryz.sizeOf150
 v139 := Tryz.zeroValue150
 g3 := by kernel_rfl
 g4 := by kernel_rfl
}
theorem Tryz.u8Extra : U8Extra Tryz.prog Tryz.uRen where
 n3 := by kernel_rfl
 n4 := by kernel_rfl
 y3 := by kernel_rfl
 y4 := by kernel_rfl
 c5 := by kernel_rfl
 c119 := by kernel_rfl
 c138 := by kernel_rfl
end Go.Proofs
namespace Go.Mu
open Go Go.Proofs
theorem tabs_glob {W : World} {laid : List (String × DataW Unit)} (hl : laidMet Tryz.prog laid W) (h1 : ("unicode/utf8.first", Lib.firstData) ∈ laid) (h2 : ("unicode/utf8.acceptRanges", Lib.acceptData) ∈ laid) : ∀ g cells, gvals g = some cells → RepP W (oldB W) (.rptr cells) (.pointer (some ⟨g, 0, none⟩)) := by
 have hT : Lib.Utf8Tabs 1 2 W := utf8Tabs_of_reads Tryz.uRen_260 Tryz.u8Extra (Lib.laidMet.reads hl h1) (Lib.laidMet.reads hl h2)
 obtain ⟨t1, t2⟩ := hT
 have lt : ∀ {g j v}, W.cell? ⟨g, j, none⟩ = some v → oldB W g := fun {g j v} h => by
  show g < W.heap.size
  unfold World.cell? at h
  by_cases hlt : g < W.heap.size
  · exact hlt
  · have hle : W.heap.size ≤ (Addr.mk g j none).block := by show W.heap.size ≤ g; omega
    rw [Array.getElem?_eq_none hle] at h
    simp at h
 intro g cells hg
 unfold gvals at hg
 split at hg
 · rename_i e
   have e : g = 1 := by simpa using e
   subst e
   simp only [Option.some.injEq] at hg
   subst hg
   refine .rptr _ _ 0 (fun j => .int .u8 (Lib.firstT j)) (lt (t1 0 (by omega))) (fun j hj => ?_) (fun j hj => ?_)
   · simp only [List.length_map, List.length_range] at hj
     rw [Nat.zero_add]
     exact ⟨t1 j hj, rfl⟩
   · simp only [List.length_map, List.length_range] at hj
     rw [List.getD_eq_getElem?_getD, List.getElem?_map, List.getElem?_range hj]
     exact .int _ _
 · split at hg
   · rename_i e
     have e : g = 2 := by simpa using e
     subst e
     simp only [Option.some.injEq] at hg
     subst hg
     refine .rptr _ _ 0 (fun j => .int .u8 ((if j % 2 = 0 then Lib.accLo (j / 2) else Lib.accHi (j / 2) : Nat) : Int)) (lt (t2 0 (by omega)).1) (fun j hj => ?_) (fun j hj => ?_)
     · simp only [List.length_map, List.length_range] at hj
       rw [Nat.zero_add]
       refine ⟨?_, rfl⟩
       have h3 := t2 (j / 2) (by omega)
       by_cases hp : j % 2 = 0
       · rw [if_pos hp]
         have : 2 * (j / 2) = j := by omega
         rw [this] at h3
         exact h3.1
       · rw [if_neg hp]
         have : 2 * (j / 2) + 1 = j := by omega
         rw [this] at h3
         exact h3.2
     · simp only [List.length_map, List.length_range] at hj
       rw [List.getD_eq_getElem?_getD, List.getElem?_map, List.getElem?_range hj]
       simp only [Option.map_some, Option.getD_some]
       split <;> exact .int _ _
   · cases hg
end Go.Mu
