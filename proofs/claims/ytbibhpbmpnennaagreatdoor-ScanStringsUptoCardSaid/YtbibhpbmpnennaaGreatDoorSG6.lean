/-
  Lemmas on the given program (part 6).
-/
import Derived.Test.YtbibhpbmpnennaaGreatDoorSG5
import Derived.Test.YtbibhpbmpnennaaGreatDoorProg
import Derived.KernelRfl
import Derived.Shelf.LaysM
import Derived.Shelf.Strings.Shaped
import Derived.WalkKit
import Derived.ProofKit
import Derived.Lib.UnsafeStr
import Derived.Shelf.RegionOpenPlain
import Derived.Shelf.GgClosure.StringsIndexFunc
import Derived.Lib.TrimUEq
import Derived.Shelf.Strings.BuilderRune
import Derived.Shelf.Strings.BuilderK
import Derived.Shelf.Unicode.Decode
import Derived.Shelf.Unicode.DecodeAny
import Derived.RangeFuncNested
import Derived.RangeFuncBound
import Derived.RangeFuncCalls
import Derived.RangeFuncLeaves
import Derived.Shelf.Abstract
import Derived.Shelf.RegionOpen
import Derived.OwnWalkIn
import Derived.TacticsInMore
import Derived.LoopNIn
import Derived.LoopIn
import Derived.Lib.QuoteLoop
import Derived.Lib.TrimU
import Derived.Shelf.Strings.MapGrows
import Derived.Shelf.Strings.OnBuilder
import Derived.Shelf.Strings.Split
import Derived.Shelf.Strings.Cut
import Derived.Lib.SlBytesConst
import Derived.Shelf.Small.Strs
import Derived.Lib.RuneBytes
import Derived.Lib.MapLaws
import Derived.RangeFuncBox
import Derived.Maps.AppendAt
set_option linter.unusedVariables false
set_option linter.unusedSimpArgs false
set_option maxRecDepth 100000
namespace Go.Mu
open Go Go.Proofs
theorem smstep_fun (C Bg BE T W A Wa V Re Ra : FC) (s : SS) (c : UInt8) (P0 P1 : Obj) (k : Out → Ans) : iFun Tryz.prog ((layS1 C Bg BE T W A Wa V Re Ra).hd Tryz.prog) (layS1 C Bg BE T W A Wa V Re Ra).fhs 0 23 [.ptr (.hp 2) 0, .int .u8 c.toNat] [P0, P1, .var (encSS s)] k = (
 let n0 : Int := (↑c.toNat : Int);
 let c1 : Bool :=
  tst
  (((OkR (cells0H [P0, P1, Obj.var (encSS s)]) ∧ okT (cells0H [P0, P1, Obj.var (encSS s)])) ∧ okc n0 = true) ∧
  SubL [AVal.ptr (Oid.hp 2) 0, AVal.int IntKind.u8 n0] [AVal.ptr (Oid.hp 2) 0, AVal.int IntKind.u8 n0] ∧
  [P0, P1, Obj.var (encSS s)] =
  [p0H [P0, P1, Obj.var (encSS s)], p1H [P0, P1, Obj.var (encSS s)],
  Obj.var (cells0H [P0, P1, Obj.var (encSS s)])]);
 let n2 : Int := (C (cells0H [P0, P1, Obj.var (encSS s)]) n0).e;
 let n3 : Int := (Bg (cells0H [P0, P1, Obj.var (encSS s)]) n0).e;
 let n4 : Int := (BE (cells0H [P0, P1, Obj.var (encSS s)]) n0).e;
 let c5 : Bool := s.k == 3;
 let n6 : Int := (T (cells0H [P0, P1, Obj.var (encSS s)]) n0).e;
 let c7 : Bool := s.k == 5;
 let n8 : Int := (W (cells0H [P0, P1, Obj.var (encSS s)]) n0).e;
 let c9 : Bool := s.k == 6;
 let n10 : Int := (A (cells0H [P0, P1, Obj.var (encSS s)]) n0).e;
 let n11 : Int := (Wa (cells0H [P0, P1, Obj.var (encSS s)]) n0).e;
 let c12 : Bool := s.k == 9;
 let n13 : Int := (V (cells0H [P0, P1, Obj.var (encSS s)]) n0).e;
 let c14 : Bool := s.k == 13;
 let n15 : Int := (Re (cells0H [P0, P1, Obj.var (encSS s)]) n0).e;
 let n16 : Int := (Ra (cells0H [P0, P1, Obj.var (encSS s)]) n0).e;
 let c17 : Bool := s.k == 14;
  bif s.k == 0 then
  bif n0 == 60 then
  k
  (Out.ret (AVal.tuple [])
  [P0, P1,
  Obj.var
  [AVal.int IntKind.i64 1, AVal.str [], AVal.str [], AVal.int IntKind.u8 0, AVal.str [], AVal.str [],
  AVal.int IntKind.i64 0, AVal.str []]])
  else
  bif c1 then
  bif n2 == 0 then
  k
  (Out.ret (AVal.tuple [])
  [p0H [P0, P1, Obj.var (encSS s)], p1H [P0, P1, Obj.var (encSS s)],
  Obj.var (encSS (C (cells0H [P0, P1, Obj.var (encSS s)]) n0).s)])
  else
  k
  (Out.panic (errV n2)
  [p0H [P0, P1, Obj.var (encSS s)], p1H [P0, P1, Obj.var (encSS s)],
  Obj.var (encSS (C (cells0H [P0, P1, Obj.var (encSS s)]) n0).s)])
  else none
  else
  bif s.k == 1 then
  bif c1 then
  bif n3 == 0 then
  k
  (Out.ret (AVal.tuple [])
  [p0H [P0, P1, Obj.var (encSS s)], p1H [P0, P1, Obj.var (encSS s)],
  Obj.var (encSS (Bg (cells0H [P0, P1, Obj.var (encSS s)]) n0).s)])
  else
  k
  (Out.panic (errV n3)
  [p0H [P0, P1, Obj.var (encSS s)], p1H [P0, P1, Obj.var (encSS s)],
  Obj.var (encSS (Bg (cells0H [P0, P1, Obj.var (encSS s)]) n0).s)])
  else none
  else
  bif s.k == 2 then
  bif c1 then
  bif n4 == 0 then
  k
  (Out.ret (AVal.tuple [])
  [p0H [P0, P1, Obj.var (encSS s)], p1H [P0, P1, Obj.var (encSS s)],
  Obj.var (encSS (BE (cells0H [P0, P1, Obj.var (encSS s)]) n0).s)])
  else
  k
  (Out.panic (errV n4)
  [p0H [P0, P1, Obj.var (encSS s)], p1H [P0, P1, Obj.var (encSS s)],
  Obj.var (encSS (BE (cells0H [P0, P1, Obj.var (encSS s)]) n0).s)])
  else none
  else
  bif c5 then
  bif c5 then
  bif c1 then
  bif n6 == 0 then
  k
  (Out.ret (AVal.tuple [])
  [p0H [P0, P1, Obj.var (encSS s)], p1H [P0, P1, Obj.var (encSS s)],
  Obj.var (encSS (T (cells0H [P0, P1, Obj.var (encSS s)]) n0).s)])
  else
  k
  (Out.panic (errV n6)
  [p0H [P0, P1, Obj.var (encSS s)], p1H [P0, P1, Obj.var (encSS s)],
  Obj.var (encSS (T (cells0H [P0, P1, Obj.var (encSS s)]) n0).s)])
  else none
  else
  bif c7 then
  bif c7 then
  bif c1 then
  bif n8 == 0 then
  k
  (Out.ret (AVal.tuple [])
  [p0H [P0, P1, Obj.var (encSS s)], p1H [P0, P1, Obj.var (encSS s)],
  Obj.var (encSS (W (cells0H [P0, P1, Obj.var (encSS s)]) n0).s)])
  else
  k
  (Out.panic (errV n8)
  [p0H [P0, P1, Obj.var (encSS s)], p1H [P0, P1, Obj.var (encSS s)],
  Obj.var (encSS (W (cells0H [P0, P1, Obj.var (encSS s)]) n0).s)])
  else none
  else
  bif c9 then
  bif c9 then
  bif c1 then
  bif n10 == 0 then
  k
  (Out.ret (AVal.tuple [])
  [p0H [P0, P1, Obj.var (encSS s)], p1H [P0, P1, Obj.var (encSS s)],
  Obj.var (encSS (A (cells0H [P0, P1, Obj.var (encSS s)]) n0).s)])
  else
  k
  (Out.panic (errV n10)
  [p0H [P0, P1, Obj.var (encSS s)], p1H [P0, P1, Obj.var (encSS s)],
  Obj.var (encSS (A (cells0H [P0, P1, Obj.var (encSS s)]) n0).s)])
  else none
  else
  bif s.k == 8 then
  bif c1 then
  bif n11 == 0 then
  k
  (Out.ret (AVal.tuple [])
  [p0H [P0, P1, Obj.var (encSS s)], p1H [P0, P1, Obj.var (encSS s)],
  Obj.var (encSS (Wa (cells0H [P0, P1, Obj.var (encSS s)]) n0).s)])
  else
  k
  (Out.panic (errV n11)
  [p0H [P0, P1, Obj.var (encSS s)], p1H [P0, P1, Obj.var (encSS s)],
  Obj.var (encSS (Wa (cells0H [P0, P1, Obj.var (encSS s)]) n0).s)])
  else none
  else
  bif c12 then
  bif c12 then
  bif c1 then
  bif n13 == 0 then
  k
  (Out.ret (AVal.tuple [])
  [p0H [P0, P1, Obj.var (encSS s)], p1H [P0, P1, Obj.var (encSS s)],
  Obj.var (encSS (V (cells0H [P0, P1, Obj.var (encSS s)]) n0).s)])
  else
  k
  (Out.panic (errV n13)
  [p0H [P0, P1, Obj.var (encSS s)], p1H [P0, P1, Obj.var (encSS s)],
  Obj.var (encSS (V (cells0H [P0, P1, Obj.var (encSS s)]) n0).s)])
  else none
  else
  bif s.k == 12 then
  bif c1 then
  bif n8 == 0 then
  k
  (Out.ret (AVal.tuple [])
  [p0H [P0, P1, Obj.var (encSS s)], p1H [P0, P1, Obj.var (encSS s)],
  Obj.var (encSS (W (cells0H [P0, P1, Obj.var (encSS s)]) n0).s)])
  else
  k
  (Out.panic (errV n8)
  [p0H [P0, P1, Obj.var (encSS s)], p1H [P0, P1, Obj.var (encSS s)],
  Obj.var (encSS (W (cells0H [P0, P1, Obj.var (encSS s)]) n0).s)])
  else none
  else
  bif c14 then
  bif c14 then
  bif c1 then
  bif n15 == 0 then
  k
  (Out.ret (AVal.tuple [])
  [p0H [P0, P1, Obj.var (encSS s)], p1H [P0, P1, Obj.var (encSS s)],
  Obj.var (encSS (Re (cells0H [P0, P1, Obj.var (encSS s)]) n0).s)])
  else
  k
  (Out.panic (errV n15)
  [p0H [P0, P1, Obj.var (encSS s)], p1H [P0, P1, Obj.var (encSS s)],
  Obj.var (encSS (Re (cells0H [P0, P1, Obj.var (encSS s)]) n0).s)])
  else none
  else
  bif s.k == 15 then
  bif n0 == 62 then
  k
  (Out.ret (AVal.tuple [])
  [P0, P1,
  Obj.var
  [AVal.int IntKind.i64 0, AVal.str [], AVal.str [], AVal.int IntKind.u8 0,
  AVal.str [], AVal.str [], AVal.int IntKind.i64 0, AVal.str []]])
  else k (Out.ret (AVal.tuple []) [P0, P1, Obj.var (encSS s)])
  else
  bif
  tst
  (((OkR (cells0H [P0, P1, Obj.var (encSS s)]) ∧
  okE (cells0H [P0, P1, Obj.var (encSS s)])) ∧
  okc n0 = true) ∧
  SubL [AVal.ptr (Oid.hp 2) 0, AVal.int IntKind.u8 n0]
  [AVal.ptr (Oid.hp 2) 0, AVal.int IntKind.u8 n0] ∧
  [P0, P1, Obj.var (encSS s)] =
  [p0H [P0, P1, Obj.var (encSS s)], p1H [P0, P1, Obj.var (encSS s)],
  Obj.var (cells0H [P0, P1, Obj.var (encSS s)])]) then
  bif n16 == 0 then
  k
  (Out.ret (AVal.tuple [])
  [p0H [P0, P1, Obj.var (encSS s)], p1H [P0, P1, Obj.var (encSS s)],
  Obj.var (encSS (Ra (cells0H [P0, P1, Obj.var (encSS s)]) n0).s)])
  else
  k
  (Out.panic (errV n16)
  [p0H [P0, P1, Obj.var (encSS s)], p1H [P0, P1, Obj.var (encSS s)],
  Obj.var (encSS (Ra (cells0H [P0, P1, Obj.var (encSS s)]) n0).s)])
  else none
  else
  bif c17 then
  bif c17 then
  bif c1 then
  bif n15 == 0 then
  k
  (Out.ret (AVal.tuple [])
  [p0H [P0, P1, Obj.var (encSS s)], p1H [P0, P1, Obj.var (encSS s)],
  Obj.var (encSS (Re (cells0H [P0, P1, Obj.var (encSS s)]) n0).s)])
  else
  k
  (Out.panic (errV n15)
  [p0H [P0, P1, Obj.var (encSS s)], p1H [P0, P1, Obj.var (encSS s)],
  Obj.var (encSS (Re (cells0H [P0, P1, Obj.var (encSS s)]) n0).s)])
  else none
  else
  bif s.k == 15 then
  bif n0 == 62 then
  k
  (Out.ret (AVal.tuple [])
  [P0, P1,
  Obj.var
  [AVal.int IntKind.i64 0, AVal.str [], AVal.str [], AVal.int IntKind.u8 0,
  AVal.str [], AVal.str [], AVal.int IntKind.i64 0, AVal.str []]])
  else k (Out.ret (AVal.tuple []) [P0, P1, Obj.var (encSS s)])
  else
  bif
  tst
  (((OkR (cells0H [P0, P1, Obj.var (encSS s)]) ∧
  okE (cells0H [P0, P1, Obj.var (encSS s)])) ∧
  okc n0 = true) ∧
  SubL [AVal.ptr (Oid.hp 2) 0, AVal.int IntKind.u8 n0]
  [AVal.ptr (Oid.hp 2) 0, AVal.int IntKind.u8 n0] ∧
  [P0, P1, Obj.var (encSS s)] =
  [p0H [P0, P1, Obj.var (encSS s)], p1H [P0, P1, Obj.var (encSS s)],
  Obj.var (cells0H [P0, P1, Obj.var (encSS s)])]) then
  bif n16 == 0 then
  k
  (Out.ret (AVal.tuple [])
  [p0H [P0, P1, Obj.var (encSS s)], p1H [P0, P1, Obj.var (encSS s)],
  Obj.var (encSS (Ra (cells0H [P0, P1, Obj.var (encSS s)]) n0).s)])
  else
  k
  (Out.panic (errV n16)
  [p0H [P0, P1, Obj.var (encSS s)], p1H [P0, P1, Obj.var (encSS s)],
  Obj.var (encSS (Ra (cells0H [P0, P1, Obj.var (encSS s)]) n0).s)])
  else none
  else
  bif s.k == 16 then
  bif c1 then
  bif n15 == 0 then
  k
  (Out.ret (AVal.tuple [])
  [p0H [P0, P1, Obj.var (encSS s)], p1H [P0, P1, Obj.var (encSS s)],
  Obj.var (encSS (Re (cells0H [P0, P1, Obj.var (encSS s)]) n0).s)])
  else
  k
  (Out.panic (errV n15)
  [p0H [P0, P1, Obj.var (encSS s)], p1H [P0, P1, Obj.var (encSS s)],
  Obj.var (encSS (Re (cells0H [P0, P1, Obj.var (encSS s)]) n0).s)])
  else none
  else
  bif s.k == 15 then
  bif n0 == 62 then
  k
  (Out.ret (AVal.tuple [])
  [P0, P1,
  Obj.var
  [AVal.int IntKind.i64 0, AVal.str [], AVal.str [], AVal.int IntKind.u8 0,
  AVal.str [], AVal.str [], AVal.int IntKind.i64 0, AVal.str []]])
  else k (Out.ret (AVal.tuple []) [P0, P1, Obj.var (encSS s)])
  else
  bif
  tst
  (((OkR (cells0H [P0, P1, Obj.var (encSS s)]) ∧
  okE (cells0H [P0, P1, Obj.var (encSS s)])) ∧
  okc n0 = true) ∧
  SubL [AVal.ptr (Oid.hp 2) 0, AVal.int IntKind.u8 n0]
  [AVal.ptr (Oid.hp 2) 0, AVal.int IntKind.u8 n0] ∧
  [P0, P1, Obj.var (encSS s)] =
  [p0H [P0, P1, Obj.var (encSS s)], p1H [P0, P1, Obj.var (encSS s)],
  Obj.var (cells0H [P0, P1, Obj.var (encSS s)])]) then
  bif n16 == 0 then
  k
  (Out.ret (AVal.tuple [])
  [p0H [P0, P1, Obj.var (encSS s)], p1H [P0, P1, Obj.var (encSS s)],
  Obj.var (encSS (Ra (cells0H [P0, P1, Obj.var (encSS s)]) n0).s)])
  else
  k
  (Out.panic (errV n16)
  [p0H [P0, P1, Obj.var (encSS s)], p1H [P0, P1, Obj.var (encSS s)],
  Obj.var (encSS (Ra (cells0H [P0, P1, Obj.var (encSS s)]) n0).s)])
  else none
  else
  bif s.k == 10 then
  bif c1 then
  bif n13 == 0 then
  k
  (Out.ret (AVal.tuple [])
  [p0H [P0, P1, Obj.var (encSS s)], p1H [P0, P1, Obj.var (encSS s)],
  Obj.var (encSS (V (cells0H [P0, P1, Obj.var (encSS s)]) n0).s)])
  else
  k
  (Out.panic (errV n13)
  [p0H [P0, P1, Obj.var (encSS s)], p1H [P0, P1, Obj.var (encSS s)],
  Obj.var (encSS (V (cells0H [P0, P1, Obj.var (encSS s)]) n0).s)])
  else none
  else
  bif s.k == 12 then
  bif c1 then
  bif n8 == 0 then
  k
  (Out.ret (AVal.tuple [])
  [p0H [P0, P1, Obj.var (encSS s)], p1H [P0, P1, Obj.var (encSS s)],
  Obj.var (encSS (W (cells0H [P0, P1, Obj.var (encSS s)]) n0).s)])
  else
  k
  (Out.panic (errV n8)
  [p0H [P0, P1, Obj.var (encSS s)], p1H [P0, P1, Obj.var (encSS s)],
  Obj.var (encSS (W (cells0H [P0, P1, Obj.var (encSS s)]) n0).s)])
  else none
  else
  bif c14 then
  bif c14 then
  bif c1 then
  bif n15 == 0 then
  k
  (Out.ret (AVal.tuple [])
  [p0H [P0, P1, Obj.var (encSS s)], p1H [P0, P1, Obj.var (encSS s)],
  Obj.var (encSS (Re (cells0H [P0, P1, Obj.var (encSS s)]) n0).s)])
  else
  k
  (Out.panic (errV n15)
  [p0H [P0, P1, Obj.var (encSS s)], p1H [P0, P1, Obj.var (encSS s)],
  Obj.var (encSS (Re (cells0H [P0, P1, Obj.var (encSS s)]) n0).s)])
  else none
  else
  bif s.k == 15 then
  bif n0 == 62 then
  k
  (Out.ret (AVal.tuple [])
  [P0, P1,
  Obj.var
  [AVal.int IntKind.i64 0, AVal.str [], AVal.str [], AVal.int IntKind.u8 0,
  AVal.str [], AVal.str [], AVal.int IntKind.i64 0, AVal.str []]])
  else k (Out.ret (AVal.tuple []) [P0, P1, Obj.var (encSS s)])
  else
  bif
  tst
  (((OkR (cells0H [P0, P1, Obj.var (encSS s)]) ∧
  okE (cells0H [P0, P1, Obj.var (encSS s)])) ∧
  okc n0 = true) ∧
  SubL [AVal.ptr (Oid.hp 2) 0, AVal.int IntKind.u8 n0]
  [AVal.ptr (Oid.hp 2) 0, AVal.int IntKind.u8 n0] ∧
  [P0, P1, Obj.var (encSS s)] =
  [p0H [P0, P1, Obj.var (encSS s)], p1H [P0, P1, Obj.var (encSS s)],
  Obj.var (cells0H [P0, P1, Obj.var (encSS s)])]) then
  bif n16 == 0 then
  k
  (Out.ret (AVal.tuple [])
  [p0H [P0, P1, Obj.var (encSS s)], p1H [P0, P1, Obj.var (encSS s)],
  Obj.var (encSS (Ra (cells0H [P0, P1, Obj.var (encSS s)]) n0).s)])
  else
  k
  (Out.panic (errV n16)
  [p0H [P0, P1, Obj.var (encSS s)], p1H [P0, P1, Obj.var (encSS s)],
  Obj.var (encSS (Ra (cells0H [P0, P1, Obj.var (encSS s)]) n0).s)])
  else none
  else
  bif c17 then
  bif c17 then
  bif c1 then
  bif n15 == 0 then
  k
  (Out.ret (AVal.tuple [])
  [p0H [P0, P1, Obj.var (encSS s)], p1H [P0, P1, Obj.var (encSS s)],
  Obj.var (encSS (Re (cells0H [P0, P1, Obj.var (encSS s)]) n0).s)])
  else
  k
  (Out.panic (errV n15)
  [p0H [P0, P1, Obj.var (encSS s)], p1H [P0, P1, Obj.var (encSS s)],
  Obj.var (encSS (Re (cells0H [P0, P1, Obj.var (encSS s)]) n0).s)])
  else none
  else
  bif s.k == 15 then
  bif n0 == 62 then
  k
  (Out.ret (AVal.tuple [])
  [P0, P1,
  Obj.var
  [AVal.int IntKind.i64 0, AVal.str [], AVal.str [], AVal.int IntKind.u8 0,
  AVal.str [], AVal.str [], AVal.int IntKind.i64 0, AVal.str []]])
  else k (Out.ret (AVal.tuple []) [P0, P1, Obj.var (encSS s)])
  else
  bif
  tst
  (((OkR (cells0H [P0, P1, Obj.var (encSS s)]) ∧
  okE (cells0H [P0, P1, Obj.var (encSS s)])) ∧
  okc n0 = true) ∧
  SubL [AVal.ptr (Oid.hp 2) 0, AVal.int IntKind.u8 n0]
  [AVal.ptr (Oid.hp 2) 0, AVal.int IntKind.u8 n0] ∧
  [P0, P1, Obj.var (encSS s)] =
  [p0H [P0, P1, Obj.var (encSS s)], p1H [P0, P1, Obj.var (encSS s)],
  Obj.var (cells0H [P0, P1, Obj.var (encSS s)])]) then
  bif n16 == 0 then
  k
  (Out.ret (AVal.tuple [])
  [p0H [P0, P1, Obj.var (encSS s)], p1H [P0, P1, Obj.var (encSS s)],
  Obj.var (encSS (Ra (cells0H [P0, P1, Obj.var (encSS s)]) n0).s)])
  else
  k
  (Out.panic (errV n16)
  [p0H [P0, P1, Obj.var (encSS s)], p1H [P0, P1, Obj.var (encSS s)],
  Obj.var (encSS (Ra (cells0H [P0, P1, Obj.var (encSS s)]) n0).s)])
  else none
  else
  bif s.k == 16 then
  bif c1 then
  bif n15 == 0 then
  k
  (Out.ret (AVal.tuple [])
  [p0H [P0, P1, Obj.var (encSS s)], p1H [P0, P1, Obj.var (encSS s)],
  Obj.var (encSS (Re (cells0H [P0, P1, Obj.var (encSS s)]) n0).s)])
  else
  k
  (Out.panic (errV n15)
  [p0H [P0, P1, Obj.var (encSS s)], p1H [P0, P1, Obj.var (encSS s)],
  Obj.var (encSS (Re (cells0H [P0, P1, Obj.var (encSS s)]) n0).s)])
  else none
  else
  bif s.k == 15 then
  bif n0 == 62 then
  k
  (Out.ret (AVal.tuple [])
  [P0, P1,
  Obj.var
  [AVal.int IntKind.i64 0, AVal.str [], AVal.str [], AVal.int IntKind.u8 0,
  AVal.str [], AVal.str [], AVal.int IntKind.i64 0, AVal.str []]])
  else k (Out.ret (AVal.tuple []) [P0, P1, Obj.var (encSS s)])
  else
  bif
  tst
  (((OkR (cells0H [P0, P1, Obj.var (encSS s)]) ∧
  okE (cells0H [P0, P1, Obj.var (encSS s)])) ∧
  okc n0 = true) ∧
  SubL [AVal.ptr (Oid.hp 2) 0, AVal.int IntKind.u8 n0]
  [AVal.ptr (Oid.hp 2) 0, AVal.int IntKind.u8 n0] ∧
  [P0, P1, Obj.var (encSS s)] =
  [p0H [P0, P1, Obj.var (encSS s)], p1H [P0, P1, Obj.var (encSS s)],
  Obj.var (cells0H [P0, P1, Obj.var (encSS s)])]) then
  bif n16 == 0 then
  k
  (Out.ret (AVal.tuple [])
  [p0H [P0, P1, Obj.var (encSS s)], p1H [P0, P1, Obj.var (encSS s)],
  Obj.var (encSS (Ra (cells0H [P0, P1, Obj.var (encSS s)]) n0).s)])
  else
  k
  (Out.panic (errV n16)
  [p0H [P0, P1, Obj.var (encSS s)], p1H [P0, P1, Obj.var (encSS s)],
  Obj.var (encSS (Ra (cells0H [P0, P1, Obj.var (encSS s)]) n0).s)])
  else none
  else
  bif s.k == 7 then
  bif c1 then
  bif n10 == 0 then
  k
  (Out.ret (AVal.tuple [])
  [p0H [P0, P1, Obj.var (encSS s)], p1H [P0, P1, Obj.var (encSS s)],
  Obj.var (encSS (A (cells0H [P0, P1, Obj.var (encSS s)]) n0).s)])
  else
  k
  (Out.panic (errV n10)
  [p0H [P0, P1, Obj.var (encSS s)], p1H [P0, P1, Obj.var (encSS s)],
  Obj.var (encSS (A (cells0H [P0, P1, Obj.var (encSS s)]) n0).s)])
  else none
  else
  bif s.k == 8 then
  bif c1 then
  bif n11 == 0 then
  k
  (Out.ret (AVal.tuple [])
  [p0H [P0, P1, Obj.var (encSS s)], p1H [P0, P1, Obj.var (encSS s)],
  Obj.var (encSS (Wa (cells0H [P0, P1, Obj.var (encSS s)]) n0).s)])
  else
  k
  (Out.panic (errV n11)
  [p0H [P0, P1, Obj.var (encSS s)], p1H [P0, P1, Obj.var (encSS s)],
  Obj.var (encSS (Wa (cells0H [P0, P1, Obj.var (encSS s)]) n0).s)])
  else none
  else
  bif c12 then
  bif c12 then
  bif c1 then
  bif n13 == 0 then
  k
  (Out.ret (AVal.tuple [])
  [p0H [P0, P1, Obj.var (encSS s)], p1H [P0, P1, Obj.var (encSS s)],
  Obj.var (encSS (V (cells0H [P0, P1, Obj.var (encSS s)]) n0).s)])
  else
  k
  (Out.panic (errV n13)
  [p0H [P0, P1, Obj.var (encSS s)], p1H [P0, P1, Obj.var (encSS s)],
  Obj.var (encSS (V (cells0H [P0, P1, Obj.var (encSS s)]) n0).s)])
  else none
  else
  bif s.k == 12 then
  bif c1 then
  bif n8 == 0 then
  k
  (Out.ret (AVal.tuple [])
  [p0H [P0, P1, Obj.var (encSS s)], p1H [P0, P1, Obj.var (encSS s)],
  Obj.var (encSS (W (cells0H [P0, P1, Obj.var (encSS s)]) n0).s)])
  else
  k
  (Out.panic (errV n8)
  [p0H [P0, P1, Obj.var (encSS s)], p1H [P0, P1, Obj.var (encSS s)],
  Obj.var (encSS (W (cells0H [P0, P1, Obj.var (encSS s)]) n0).s)])
  else none
  else
  bif c14 then
  bif c14 then
  bif c1 then
  bif n15 == 0 then
  k
  (Out.ret (AVal.tuple [])
  [p0H [P0, P1, Obj.var (encSS s)], p1H [P0, P1, Obj.var (encSS s)],
  Obj.var (encSS (Re (cells0H [P0, P1, Obj.var (encSS s)]) n0).s)])
  else
  k
  (Out.panic (errV n15)
  [p0H [P0, P1, Obj.var (encSS s)], p1H [P0, P1, Obj.var (encSS s)],
  Obj.var (encSS (Re (cells0H [P0, P1, Obj.var (encSS s)]) n0).s)])
  else none
  else
  bif s.k == 15 then
  bif n0 == 62 then
  k
  (Out.ret (AVal.tuple [])
  [P0, P1,
  Obj.var
  [AVal.int IntKind.i64 0, AVal.str [], AVal.str [], AVal.int IntKind.u8 0,
  AVal.str [], AVal.str [], AVal.int IntKind.i64 0, AVal.str []]])
  else k (Out.ret (AVal.tuple []) [P0, P1, Obj.var (encSS s)])
  else
  bif
  tst
  (((OkR (cells0H [P0, P1, Obj.var (encSS s)]) ∧
  okE (cells0H [P0, P1, Obj.var (encSS s)])) ∧
  okc n0 = true) ∧
  SubL [AVal.ptr (Oid.hp 2) 0, AVal.int IntKind.u8 n0]
  [AVal.ptr (Oid.hp 2) 0, AVal.int IntKind.u8 n0] ∧
  [P0, P1, Obj.var (encSS s)] =
  [p0H [P0, P1, Obj.var (encSS s)], p1H [P0, P1, Obj.var (encSS s)],
  Obj.var (cells0H [P0, P1, Obj.var (encSS s)])]) then
  bif n16 == 0 then
  k
  (Out.ret (AVal.tuple [])
  [p0H [P0, P1, Obj.var (encSS s)], p1H [P0, P1, Obj.var (encSS s)],
  Obj.var (encSS (Ra (cells0H [P0, P1, Obj.var (encSS s)]) n0).s)])
  else
  k
  (Out.panic (errV n16)
  [p0H [P0, P1, Obj.var (encSS s)], p1H [P0, P1, Obj.var (encSS s)],
  Obj.var (encSS (Ra (cells0H [P0, P1, Obj.var (encSS s)]) n0).s)])
  else none
  else
  bif c17 then
  bif c17 then
  bif c1 then
  bif n15 == 0 then
  k
  (Out.ret (AVal.tuple [])
  [p0H [P0, P1, Obj.var (encSS s)], p1H [P0, P1, Obj.var (encSS s)],
  Obj.var (encSS (Re (cells0H [P0, P1, Obj.var (encSS s)]) n0).s)])
  else
  k
  (Out.panic (errV n15)
  [p0H [P0, P1, Obj.var (encSS s)], p1H [P0, P1, Obj.var (encSS s)],
  Obj.var (encSS (Re (cells0H [P0, P1, Obj.var (encSS s)]) n0).s)])
  else none
  else
  bif s.k == 15 then
  bif n0 == 62 then
  k
  (Out.ret (AVal.tuple [])
  [P0, P1,
  Obj.var
  [AVal.int IntKind.i64 0, AVal.str [], AVal.str [], AVal.int IntKind.u8 0,
  AVal.str [], AVal.str [], AVal.int IntKind.i64 0, AVal.str []]])
  else k (Out.ret (AVal.tuple []) [P0, P1, Obj.var (encSS s)])
  else
  bif
  tst
  (((OkR (cells0H [P0, P1, Obj.var (encSS s)]) ∧
  okE (cells0H [P0, P1, Obj.var (encSS s)])) ∧
  okc n0 = true) ∧
  SubL [AVal.ptr (Oid.hp 2) 0, AVal.int IntKind.u8 n0]
  [AVal.ptr (Oid.hp 2) 0, AVal.int IntKind.u8 n0] ∧
  [P0, P1, Obj.var (encSS s)] =
  [p0H [P0, P1, Obj.var (encSS s)], p1H [P0, P1, Obj.var (encSS s)],
  Obj.var (cells0H [P0, P1, Obj.var (encSS s)])]) then
  bif n16 == 0 then
  k
  (Out.ret (AVal.tuple [])
  [p0H [P0, P1, Obj.var (encSS s)], p1H [P0, P1, Obj.var (encSS s)],
  Obj.var (encSS (Ra (cells0H [P0, P1, Obj.var (encSS s)]) n0).s)])
  else
  k
  (Out.panic (errV n16)
  [p0H [P0, P1, Obj.var (encSS s)], p1H [P0, P1, Obj.var (encSS s)],
  Obj.var (encSS (Ra (cells0H [P0, P1, Obj.var (encSS s)]) n0).s)])
  else none
  else
  bif s.k == 16 then
  bif c1 then
  bif n15 == 0 then
  k
  (Out.ret (AVal.tuple [])
  [p0H [P0, P1, Obj.var (encSS s)], p1H [P0, P1, Obj.var (encSS s)],
  Obj.var (encSS (Re (cells0H [P0, P1, Obj.var (encSS s)]) n0).s)])
  else
  k
  (Out.panic (errV n15)
  [p0H [P0, P1, Obj.var (encSS s)], p1H [P0, P1, Obj.var (encSS s)],
  Obj.var (encSS (Re (cells0H [P0, P1, Obj.var (encSS s)]) n0).s)])
  else none
  else
  bif s.k == 15 then
  bif n0 == 62 then
  k
  (Out.ret (AVal.tuple [])
  [P0, P1,
  Obj.var
  [AVal.int IntKind.i64 0, AVal.str [], AVal.str [], AVal.int IntKind.u8 0,
  AVal.str [], AVal.str [], AVal.int IntKind.i64 0, AVal.str []]])
  else k (Out.ret (AVal.tuple []) [P0, P1, Obj.var (encSS s)])
  else
  bif
  tst
  (((OkR (cells0H [P0, P1, Obj.var (encSS s)]) ∧
  okE (cells0H [P0, P1, Obj.var (encSS s)])) ∧
  okc n0 = true) ∧
  SubL [AVal.ptr (Oid.hp 2) 0, AVal.int IntKind.u8 n0]
  [AVal.ptr (Oid.hp 2) 0, AVal.int IntKind.u8 n0] ∧
  [P0, P1, Obj.var (encSS s)] =
  [p0H [P0, P1, Obj.var (encSS s)], p1H [P0, P1, Obj.var (encSS s)],
  Obj.var (cells0H [P0, P1, Obj.var (encSS s)])]) then
  bif n16 == 0 then
  k
  (Out.ret (AVal.tuple [])
  [p0H [P0, P1, Obj.var (encSS s)], p1H [P0, P1, Obj.var (encSS s)],
  Obj.var (encSS (Ra (cells0H [P0, P1, Obj.var (encSS s)]) n0).s)])
  else
  k
  (Out.panic (errV n16)
  [p0H [P0, P1, Obj.var (encSS s)], p1H [P0, P1, Obj.var (encSS s)],
  Obj.var (encSS (Ra (cells0H [P0, P1, Obj.var (encSS s)]) n0).s)])
  else none
  else
  bif s.k == 10 then
  bif c1 then
  bif n13 == 0 then
  k
  (Out.ret (AVal.tuple [])
  [p0H [P0, P1, Obj.var (encSS s)], p1H [P0, P1, Obj.var (encSS s)],
  Obj.var (encSS (V (cells0H [P0, P1, Obj.var (encSS s)]) n0).s)])
  else
  k
  (Out.panic (errV n13)
  [p0H [P0, P1, Obj.var (encSS s)], p1H [P0, P1, Obj.var (encSS s)],
  Obj.var (encSS (V (cells0H [P0, P1, Obj.var (encSS s)]) n0).s)])
  else none
  else
  bif s.k == 12 then
  bif c1 then
  bif n8 == 0 then
  k
  (Out.ret (AVal.tuple [])
  [p0H [P0, P1, Obj.var (encSS s)], p1H [P0, P1, Obj.var (encSS s)],
  Obj.var (encSS (W (cells0H [P0, P1, Obj.var (encSS s)]) n0).s)])
  else
  k
  (Out.panic (errV n8)
  [p0H [P0, P1, Obj.var (encSS s)], p1H [P0, P1, Obj.var (encSS s)],
  Obj.var (encSS (W (cells0H [P0, P1, Obj.var (encSS s)]) n0).s)])
  else none
  else
  bif c14 then
  bif c14 then
  bif c1 then
  bif n15 == 0 then
  k
  (Out.ret (AVal.tuple [])
  [p0H [P0, P1, Obj.var (encSS s)], p1H [P0, P1, Obj.var (encSS s)],
  Obj.var (encSS (Re (cells0H [P0, P1, Obj.var (encSS s)]) n0).s)])
  else
  k
  (Out.panic (errV n15)
  [p0H [P0, P1, Obj.var (encSS s)], p1H [P0, P1, Obj.var (encSS s)],
  Obj.var (encSS (Re (cells0H [P0, P1, Obj.var (encSS s)]) n0).s)])
  else none
  else
  bif s.k == 15 then
  bif n0 == 62 then
  k
  (Out.ret (AVal.tuple [])
  [P0, P1,
  Obj.var
  [AVal.int IntKind.i64 0, AVal.str [], AVal.str [], AVal.int IntKind.u8 0,
  AVal.str [], AVal.str [], AVal.int IntKind.i64 0, AVal.str []]])
  else k (Out.ret (AVal.tuple []) [P0, P1, Obj.var (encSS s)])
  else
  bif
  tst
  (((OkR (cells0H [P0, P1, Obj.var (encSS s)]) ∧
  okE (cells0H [P0, P1, Obj.var (encSS s)])) ∧
  okc n0 = true) ∧
  SubL [AVal.ptr (Oid.hp 2) 0, AVal.int IntKind.u8 n0]
  [AVal.ptr (Oid.hp 2) 0, AVal.int IntKind.u8 n0] ∧
  [P0, P1, Obj.var (encSS s)] =
  [p0H [P0, P1, Obj.var (encSS s)], p1H [P0, P1, Obj.var (encSS s)],
  Obj.var (cells0H [P0, P1, Obj.var (encSS s)])]) then
  bif n16 == 0 then
  k
  (Out.ret (AVal.tuple [])
  [p0H [P0, P1, Obj.var (encSS s)], p1H [P0, P1, Obj.var (encSS s)],
  Obj.var (encSS (Ra (cells0H [P0, P1, Obj.var (encSS s)]) n0).s)])
  else
  k
  (Out.panic (errV n16)
  [p0H [P0, P1, Obj.var (encSS s)], p1H [P0, P1, Obj.var (encSS s)],
  Obj.var (encSS (Ra (cells0H [P0, P1, Obj.var (encSS s)]) n0).s)])
  else none
  else
  bif c17 then
  bif c17 then
  bif c1 then
  bif n15 == 0 then
  k
  (Out.ret (AVal.tuple [])
  [p0H [P0, P1, Obj.var (encSS s)], p1H [P0, P1, Obj.var (encSS s)],
  Obj.var (encSS (Re (cells0H [P0, P1, Obj.var (encSS s)]) n0).s)])
  else
  k
  (Out.panic (errV n15)
  [p0H [P0, P1, Obj.var (encSS s)], p1H [P0, P1, Obj.var (encSS s)],
  Obj.var (encSS (Re (cells0H [P0, P1, Obj.var (encSS s)]) n0).s)])
  else none
  else
  bif s.k == 15 then
  bif n0 == 62 then
  k
  (Out.ret (AVal.tuple [])
  [P0, P1,
  Obj.var
  [AVal.int IntKind.i64 0, AVal.str [], AVal.str [], AVal.int IntKind.u8 0,
  AVal.str [], AVal.str [], AVal.int IntKind.i64 0, AVal.str []]])
  else k (Out.ret (AVal.tuple []) [P0, P1, Obj.var (encSS s)])
  else
  bif
  tst
  (((OkR (cells0H [P0, P1, Obj.var (encSS s)]) ∧
  okE (cells0H [P0, P1, Obj.var (encSS s)])) ∧
  okc n0 = true) ∧
  SubL [AVal.ptr (Oid.hp 2) 0, AVal.int IntKind.u8 n0]
  [AVal.ptr (Oid.hp 2) 0, AVal.int IntKind.u8 n0] ∧
  [P0, P1, Obj.var (encSS s)] =
  [p0H [P0, P1, Obj.var (encSS s)], p1H [P0, P1, Obj.var (encSS s)],
  Obj.var (cells0H [P0, P1, Obj.var (encSS s)])]) then
  bif n16 == 0 then
  k
  (Out.ret (AVal.tuple [])
  [p0H [P0, P1, Obj.var (encSS s)], p1H [P0, P1, Obj.var (encSS s)],
  Obj.var (encSS (Ra (cells0H [P0, P1, Obj.var (encSS s)]) n0).s)])
  else
  k
  (Out.panic (errV n16)
  [p0H [P0, P1, Obj.var (encSS s)], p1H [P0, P1, Obj.var (encSS s)],
  Obj.var (encSS (Ra (cells0H [P0, P1, Obj.var (encSS s)]) n0).s)])
  else none
  else
  bif s.k == 16 then
  bif c1 then
  bif n15 == 0 then
  k
  (Out.ret (AVal.tuple [])
  [p0H [P0, P1, Obj.var (encSS s)], p1H [P0, P1, Obj.var (encSS s)],
  Obj.var (encSS (Re (cells0H [P0, P1, Obj.var (encSS s)]) n0).s)])
  else
  k
  (Out.panic (errV n15)
  [p0H [P0, P1, Obj.var (encSS s)], p1H [P0, P1, Obj.var (encSS s)],
  Obj.var (encSS (Re (cells0H [P0, P1, Obj.var (encSS s)]) n0).s)])
  else none
  else
  bif s.k == 15 then
  bif n0 == 62 then
  k
  (Out.ret (AVal.tuple [])
  [P0, P1,
  Obj.var
  [AVal.int IntKind.i64 0, AVal.str [], AVal.str [], AVal.int IntKind.u8 0,
  AVal.str [], AVal.str [], AVal.int IntKind.i64 0, AVal.str []]])
  else k (Out.ret (AVal.tuple []) [P0, P1, Obj.var (encSS s)])
  else
  bif
  tst
  (((OkR (cells0H [P0, P1, Obj.var (encSS s)]) ∧
  okE (cells0H [P0, P1, Obj.var (encSS s)])) ∧
  okc n0 = true) ∧
  SubL [AVal.ptr (Oid.hp 2) 0, AVal.int IntKind.u8 n0]
  [AVal.ptr (Oid.hp 2) 0, AVal.int IntKind.u8 n0] ∧
  [P0, P1, Obj.var (encSS s)] =
  [p0H [P0, P1, Obj.var (encSS s)], p1H [P0, P1, Obj.var (encSS s)],
  Obj.var (cells0H [P0, P1, Obj.var (encSS s)])]) then
  bif n16 == 0 then
  k
  (Out.ret (AVal.tuple [])
  [p0H [P0, P1, Obj.var (encSS s)], p1H [P0, P1, Obj.var (encSS s)],
  Obj.var (encSS (Ra (cells0H [P0, P1, Obj.var (encSS s)]) n0).s)])
  else
  k
  (Out.panic (errV n16)
  [p0H [P0, P1, Obj.var (encSS s)], p1H [P0, P1, Obj.var (encSS s)],
  Obj.var (encSS (Ra (cells0H [P0, P1, Obj.var (encSS s)]) n0).s)])
  else none
  else
  bif s.k == 11 then
  bif c1 then
  bif n8 == 0 then
  k
  (Out.ret (AVal.tuple [])
  [p0H [P0, P1, Obj.var (encSS s)], p1H [P0, P1, Obj.var (encSS s)],
  Obj.var (encSS (W (cells0H [P0, P1, Obj.var (encSS s)]) n0).s)])
  else
  k
  (Out.panic (errV n8)
  [p0H [P0, P1, Obj.var (encSS s)], p1H [P0, P1, Obj.var (encSS s)],
  Obj.var (encSS (W (cells0H [P0, P1, Obj.var (encSS s)]) n0).s)])
  else none
  else
  bif c9 then
  bif c9 then
  bif c1 then
  bif n10 == 0 then
  k
  (Out.ret (AVal.tuple [])
  [p0H [P0, P1, Obj.var (encSS s)], p1H [P0, P1, Obj.var (encSS s)],
  Obj.var (encSS (A (cells0H [P0, P1, Obj.var (encSS s)]) n0).s)])
  else
  k
  (Out.panic (errV n10)
  [p0H [P0, P1, Obj.var (encSS s)], p1H [P0, P1, Obj.var (encSS s)],
  Obj.var (encSS (A (cells0H [P0, P1, Obj.var (encSS s)]) n0).s)])
  else none
  else
  bif s.k == 8 then
  bif c1 then
  bif n11 == 0 then
  k
  (Out.ret (AVal.tuple [])
  [p0H [P0, P1, Obj.var (encSS s)], p1H [P0, P1, Obj.var (encSS s)],
  Obj.var (encSS (Wa (cells0H [P0, P1, Obj.var (encSS s)]) n0).s)])
  else
  k
  (Out.panic (errV n11)
  [p0H [P0, P1, Obj.var (encSS s)], p1H [P0, P1, Obj.var (encSS s)],
  Obj.var (encSS (Wa (cells0H [P0, P1, Obj.var (encSS s)]) n0).s)])
  else none
  else
  bif c12 then
  bif c12 then
  bif c1 then
  bif n13 == 0 then
  k
  (Out.ret (AVal.tuple [])
  [p0H [P0, P1, Obj.var (encSS s)], p1H [P0, P1, Obj.var (encSS s)],
  Obj.var (encSS (V (cells0H [P0, P1, Obj.var (encSS s)]) n0).s)])
  else
  k
  (Out.panic (errV n13)
  [p0H [P0, P1, Obj.var (encSS s)], p1H [P0, P1, Obj.var (encSS s)],
  Obj.var (encSS (V (cells0H [P0, P1, Obj.var (encSS s)]) n0).s)])
  else none
  else
  bif s.k == 12 then
  bif c1 then
  bif n8 == 0 then
  k
  (Out.ret (AVal.tuple [])
  [p0H [P0, P1, Obj.var (encSS s)], p1H [P0, P1, Obj.var (encSS s)],
  Obj.var (encSS (W (cells0H [P0, P1, Obj.var (encSS s)]) n0).s)])
  else
  k
  (Out.panic (errV n8)
  [p0H [P0, P1, Obj.var (encSS s)], p1H [P0, P1, Obj.var (encSS s)],
  Obj.var (encSS (W (cells0H [P0, P1, Obj.var (encSS s)]) n0).s)])
  else none
  else
  bif c14 then
  bif c14 then
  bif c1 then
  bif n15 == 0 then
  k
  (Out.ret (AVal.tuple [])
  [p0H [P0, P1, Obj.var (encSS s)], p1H [P0, P1, Obj.var (encSS s)],
  Obj.var (encSS (Re (cells0H [P0, P1, Obj.var (encSS s)]) n0).s)])
  else
  k
  (Out.panic (errV n15)
  [p0H [P0, P1, Obj.var (encSS s)], p1H [P0, P1, Obj.var (encSS s)],
  Obj.var (encSS (Re (cells0H [P0, P1, Obj.var (encSS s)]) n0).s)])
  else none
  else
  bif s.k == 15 then
  bif n0 == 62 then
  k
  (Out.ret (AVal.tuple [])
  [P0, P1,
  Obj.var
  [AVal.int IntKind.i64 0, AVal.str [], AVal.str [], AVal.int IntKind.u8 0,
  AVal.str [], AVal.str [], AVal.int IntKind.i64 0, AVal.str []]])
  else k (Out.ret (AVal.tuple []) [P0, P1, Obj.var (encSS s)])
  else
  bif
  tst
  (((OkR (cells0H [P0, P1, Obj.var (encSS s)]) ∧
  okE (cells0H [P0, P1, Obj.var (encSS s)])) ∧
  okc n0 = true) ∧
  SubL [AVal.ptr (Oid.hp 2) 0, AVal.int IntKind.u8 n0]
  [AVal.ptr (Oid.hp 2) 0, AVal.int IntKind.u8 n0] ∧
  [P0, P1, Obj.var (encSS s)] =
  [p0H [P0, P1, Obj.var (encSS s)], p1H [P0, P1, Obj.var (encSS s)],
  Obj.var (cells0H [P0, P1, Obj.var (encSS s)])]) then
  bif n16 == 0 then
  k
  (Out.ret (AVal.tuple [])
  [p0H [P0, P1, Obj.var (encSS s)], p1H [P0, P1, Obj.var (encSS s)],
  Obj.var (encSS (Ra (cells0H [P0, P1, Obj.var (encSS s)]) n0).s)])
  else
  k
  (Out.panic (errV n16)
  [p0H [P0, P1, Obj.var (encSS s)], p1H [P0, P1, Obj.var (encSS s)],
  Obj.var (encSS (Ra (cells0H [P0, P1, Obj.var (encSS s)]) n0).s)])
  else none
  else
  bif c17 then
  bif c17 then
  bif c1 then
  bif n15 == 0 then
  k
  (Out.ret (AVal.tuple [])
  [p0H [P0, P1, Obj.var (encSS s)], p1H [P0, P1, Obj.var (encSS s)],
  Obj.var (encSS (Re (cells0H [P0, P1, Obj.var (encSS s)]) n0).s)])
  else
  k
  (Out.panic (errV n15)
  [p0H [P0, P1, Obj.var (encSS s)], p1H [P0, P1, Obj.var (encSS s)],
  Obj.var (encSS (Re (cells0H [P0, P1, Obj.var (encSS s)]) n0).s)])
  else none
  else
  bif s.k == 15 then
  bif n0 == 62 then
  k
  (Out.ret (AVal.tuple [])
  [P0, P1,
  Obj.var
  [AVal.int IntKind.i64 0, AVal.str [], AVal.str [], AVal.int IntKind.u8 0,
  AVal.str [], AVal.str [], AVal.int IntKind.i64 0, AVal.str []]])
  else k (Out.ret (AVal.tuple []) [P0, P1, Obj.var (encSS s)])
  else
  bif
  tst
  (((OkR (cells0H [P0, P1, Obj.var (encSS s)]) ∧
  okE (cells0H [P0, P1, Obj.var (encSS s)])) ∧
  okc n0 = true) ∧
  SubL [AVal.ptr (Oid.hp 2) 0, AVal.int IntKind.u8 n0]
  [AVal.ptr (Oid.hp 2) 0, AVal.int IntKind.u8 n0] ∧
  [P0, P1, Obj.var (encSS s)] =
  [p0H [P0, P1, Obj.var (encSS s)], p1H [P0, P1, Obj.var (encSS s)],
  Obj.var (cells0H [P0, P1, Obj.var (encSS s)])]) then
  bif n16 == 0 then
  k
  (Out.ret (AVal.tuple [])
  [p0H [P0, P1, Obj.var (encSS s)], p1H [P0, P1, Obj.var (encSS s)],
  Obj.var (encSS (Ra (cells0H [P0, P1, Obj.var (encSS s)]) n0).s)])
  else
  k
  (Out.panic (errV n16)
  [p0H [P0, P1, Obj.var (encSS s)], p1H [P0, P1, Obj.var (encSS s)],
  Obj.var (encSS (Ra (cells0H [P0, P1, Obj.var (encSS s)]) n0).s)])
  else none
  else
  bif s.k == 16 then
  bif c1 then
  bif n15 == 0 then
  k
  (Out.ret (AVal.tuple [])
  [p0H [P0, P1, Obj.var (encSS s)], p1H [P0, P1, Obj.var (encSS s)],
  Obj.var (encSS (Re (cells0H [P0, P1, Obj.var (encSS s)]) n0).s)])
  else
  k
  (Out.panic (errV n15)
  [p0H [P0, P1, Obj.var (encSS s)], p1H [P0, P1, Obj.var (encSS s)],
  Obj.var (encSS (Re (cells0H [P0, P1, Obj.var (encSS s)]) n0).s)])
  else none
  else
  bif s.k == 15 then
  bif n0 == 62 then
  k
  (Out.ret (AVal.tuple [])
  [P0, P1,
  Obj.var
  [AVal.int IntKind.i64 0, AVal.str [], AVal.str [], AVal.int IntKind.u8 0,
  AVal.str [], AVal.str [], AVal.int IntKind.i64 0, AVal.str []]])
  else k (Out.ret (AVal.tuple []) [P0, P1, Obj.var (encSS s)])
  else
  bif
  tst
  (((OkR (cells0H [P0, P1, Obj.var (encSS s)]) ∧
  okE (cells0H [P0, P1, Obj.var (encSS s)])) ∧
  okc n0 = true) ∧
  SubL [AVal.ptr (Oid.hp 2) 0, AVal.int IntKind.u8 n0]
  [AVal.ptr (Oid.hp 2) 0, AVal.int IntKind.u8 n0] ∧
  [P0, P1, Obj.var (encSS s)] =
  [p0H [P0, P1, Obj.var (encSS s)], p1H [P0, P1, Obj.var (encSS s)],
  Obj.var (cells0H [P0, P1, Obj.var (encSS s)])]) then
  bif n16 == 0 then
  k
  (Out.ret (AVal.tuple [])
  [p0H [P0, P1, Obj.var (encSS s)], p1H [P0, P1, Obj.var (encSS s)],
  Obj.var (encSS (Ra (cells0H [P0, P1, Obj.var (encSS s)]) n0).s)])
  else
  k
  (Out.panic (errV n16)
  [p0H [P0, P1, Obj.var (encSS s)], p1H [P0, P1, Obj.var (encSS s)],
  Obj.var (encSS (Ra (cells0H [P0, P1, Obj.var (encSS s)]) n0).s)])
  else none
  else
  bif s.k == 10 then
  bif c1 then
  bif n13 == 0 then
  k
  (Out.ret (AVal.tuple [])
  [p0H [P0, P1, Obj.var (encSS s)], p1H [P0, P1, Obj.var (encSS s)],
  Obj.var (encSS (V (cells0H [P0, P1, Obj.var (encSS s)]) n0).s)])
  else
  k
  (Out.panic (errV n13)
  [p0H [P0, P1, Obj.var (encSS s)], p1H [P0, P1, Obj.var (encSS s)],
  Obj.var (encSS (V (cells0H [P0, P1, Obj.var (encSS s)]) n0).s)])
  else none
  else
  bif s.k == 12 then
  bif c1 then
  bif n8 == 0 then
  k
  (Out.ret (AVal.tuple [])
  [p0H [P0, P1, Obj.var (encSS s)], p1H [P0, P1, Obj.var (encSS s)],
  Obj.var (encSS (W (cells0H [P0, P1, Obj.var (encSS s)]) n0).s)])
  else
  k
  (Out.panic (errV n8)
  [p0H [P0, P1, Obj.var (encSS s)], p1H [P0, P1, Obj.var (encSS s)],
  Obj.var (encSS (W (cells0H [P0, P1, Obj.var (encSS s)]) n0).s)])
  else none
  else
  bif c14 then
  bif c14 then
  bif c1 then
  bif n15 == 0 then
  k
  (Out.ret (AVal.tuple [])
  [p0H [P0, P1, Obj.var (encSS s)], p1H [P0, P1, Obj.var (encSS s)],
  Obj.var (encSS (Re (cells0H [P0, P1, Obj.var (encSS s)]) n0).s)])
  else
  k
  (Out.panic (errV n15)
  [p0H [P0, P1, Obj.var (encSS s)], p1H [P0, P1, Obj.var (encSS s)],
  Obj.var (encSS (Re (cells0H [P0, P1, Obj.var (encSS s)]) n0).s)])
  else none
  else
  bif s.k == 15 then
  bif n0 == 62 then
  k
  (Out.ret (AVal.tuple [])
  [P0, P1,
  Obj.var
  [AVal.int IntKind.i64 0, AVal.str [], AVal.str [], AVal.int IntKind.u8 0,
  AVal.str [], AVal.str [], AVal.int IntKind.i64 0, AVal.str []]])
  else k (Out.ret (AVal.tuple []) [P0, P1, Obj.var (encSS s)])
  else
  bif
  tst
  (((OkR (cells0H [P0, P1, Obj.var (encSS s)]) ∧
  okE (cells0H [P0, P1, Obj.var (encSS s)])) ∧
  okc n0 = true) ∧
  SubL [AVal.ptr (Oid.hp 2) 0, AVal.int IntKind.u8 n0]
  [AVal.ptr (Oid.hp 2) 0, AVal.int IntKind.u8 n0] ∧
  [P0, P1, Obj.var (encSS s)] =
  [p0H [P0, P1, Obj.var (encSS s)], p1H [P0, P1, Obj.var (encSS s)],
  Obj.var (cells0H [P0, P1, Obj.var (encSS s)])]) then
  bif n16 == 0 then
  k
  (Out.ret (AVal.tuple [])
  [p0H [P0, P1, Obj.var (encSS s)], p1H [P0, P1, Obj.var (encSS s)],
  Obj.var (encSS (Ra (cells0H [P0, P1, Obj.var (encSS s)]) n0).s)])
  else
  k
  (Out.panic (errV n16)
  [p0H [P0, P1, Obj.var (encSS s)], p1H [P0, P1, Obj.var (encSS s)],
  Obj.var (encSS (Ra (cells0H [P0, P1, Obj.var (encSS s)]) n0).s)])
  else none
  else
  bif c17 then
  bif c17 then
  bif c1 then
  bif n15 == 0 then
  k
  (Out.ret (AVal.tuple [])
  [p0H [P0, P1, Obj.var (encSS s)], p1H [P0, P1, Obj.var (encSS s)],
  Obj.var (encSS (Re (cells0H [P0, P1, Obj.var (encSS s)]) n0).s)])
  else
  k
  (Out.panic (errV n15)
  [p0H [P0, P1, Obj.var (encSS s)], p1H [P0, P1, Obj.var (encSS s)],
  Obj.var (encSS (Re (cells0H [P0, P1, Obj.var (encSS s)]) n0).s)])
  else none
  else
  bif s.k == 15 then
  bif n0 == 62 then
  k
  (Out.ret (AVal.tuple [])
  [P0, P1,
  Obj.var
  [AVal.int IntKind.i64 0, AVal.str [], AVal.str [], AVal.int IntKind.u8 0,
  AVal.str [], AVal.str [], AVal.int IntKind.i64 0, AVal.str []]])
  else k (Out.ret (AVal.tuple []) [P0, P1, Obj.var (encSS s)])
  else
  bif
  tst
  (((OkR (cells0H [P0, P1, Obj.var (encSS s)]) ∧
  okE (cells0H [P0, P1, Obj.var (encSS s)])) ∧
  okc n0 = true) ∧
  SubL [AVal.ptr (Oid.hp 2) 0, AVal.int IntKind.u8 n0]
  [AVal.ptr (Oid.hp 2) 0, AVal.int IntKind.u8 n0] ∧
  [P0, P1, Obj.var (encSS s)] =
  [p0H [P0, P1, Obj.var (encSS s)], p1H [P0, P1, Obj.var (encSS s)],
  Obj.var (cells0H [P0, P1, Obj.var (encSS s)])]) then
  bif n16 == 0 then
  k
  (Out.ret (AVal.tuple [])
  [p0H [P0, P1, Obj.var (encSS s)], p1H [P0, P1, Obj.var (encSS s)],
  Obj.var (encSS (Ra (cells0H [P0, P1, Obj.var (encSS s)]) n0).s)])
  else
  k
  (Out.panic (errV n16)
  [p0H [P0, P1, Obj.var (encSS s)], p1H [P0, P1, Obj.var (encSS s)],
  Obj.var (encSS (Ra (cells0H [P0, P1, Obj.var (encSS s)]) n0).s)])
  else none
  else
  bif s.k == 16 then
  bif c1 then
  bif n15 == 0 then
  k
  (Out.ret (AVal.tuple [])
  [p0H [P0, P1, Obj.var (encSS s)], p1H [P0, P1, Obj.var (encSS s)],
  Obj.var (encSS (Re (cells0H [P0, P1, Obj.var (encSS s)]) n0).s)])
  else
  k
  (Out.panic (errV n15)
  [p0H [P0, P1, Obj.var (encSS s)], p1H [P0, P1, Obj.var (encSS s)],
  Obj.var (encSS (Re (cells0H [P0, P1, Obj.var (encSS s)]) n0).s)])
  else none
  else
  bif s.k == 15 then
  bif n0 == 62 then
  k
  (Out.ret (AVal.tuple [])
  [P0, P1,
  Obj.var
  [AVal.int IntKind.i64 0, AVal.str [], AVal.str [], AVal.int IntKind.u8 0,
  AVal.str [], AVal.str [], AVal.int IntKind.i64 0, AVal.str []]])
  else k (Out.ret (AVal.tuple []) [P0, P1, Obj.var (encSS s)])
  else
  bif
  tst
  (((OkR (cells0H [P0, P1, Obj.var (encSS s)]) ∧
  okE (cells0H [P0, P1, Obj.var (encSS s)])) ∧
  okc n0 = true) ∧
  SubL [AVal.ptr (Oid.hp 2) 0, AVal.int IntKind.u8 n0]
  [AVal.ptr (Oid.hp 2) 0, AVal.int IntKind.u8 n0] ∧
  [P0, P1, Obj.var (encSS s)] =
  [p0H [P0, P1, Obj.var (encSS s)], p1H [P0, P1, Obj.var (encSS s)],
  Obj.var (cells0H [P0, P1, Obj.var (encSS s)])]) then
  bif n16 == 0 then
  k
  (Out.ret (AVal.tuple [])
  [p0H [P0, P1, Obj.var (encSS s)], p1H [P0, P1, Obj.var (encSS s)],
  Obj.var (encSS (Ra (cells0H [P0, P1, Obj.var (encSS s)]) n0).s)])
  else
  k
  (Out.panic (errV n16)
  [p0H [P0, P1, Obj.var (encSS s)], p1H [P0, P1, Obj.var (encSS s)],
  Obj.var (encSS (Ra (cells0H [P0, P1, Obj.var (encSS s)]) n0).s)])
  else none
  else
  bif s.k == 7 then
  bif c1 then
  bif n10 == 0 then
  k
  (Out.ret (AVal.tuple [])
  [p0H [P0, P1, Obj.var (encSS s)], p1H [P0, P1, Obj.var (encSS s)],
  Obj.var (encSS (A (cells0H [P0, P1, Obj.var (encSS s)]) n0).s)])
  else
  k
  (Out.panic (errV n10)
  [p0H [P0, P1, Obj.var (encSS s)], p1H [P0, P1, Obj.var (encSS s)],
  Obj.var (encSS (A (cells0H [P0, P1, Obj.var (encSS s)]) n0).s)])
  else none
  else
  bif s.k == 8 then
  bif c1 then
  bif n11 == 0 then
  k
  (Out.ret (AVal.tuple [])
  [p0H [P0, P1, Obj.var (encSS s)], p1H [P0, P1, Obj.var (encSS s)],
  Obj.var (encSS (Wa (cells0H [P0, P1, Obj.var (encSS s)]) n0).s)])
  else
  k
  (Out.panic (errV n11)
  [p0H [P0, P1, Obj.var (encSS s)], p1H [P0, P1, Obj.var (encSS s)],
  Obj.var (encSS (Wa (cells0H [P0, P1, Obj.var (encSS s)]) n0).s)])
  else none
  else
  bif c12 then
  bif c12 then
  bif c1 then
  bif n13 == 0 then
  k
  (Out.ret (AVal.tuple [])
  [p0H [P0, P1, Obj.var (encSS s)], p1H [P0, P1, Obj.var (encSS s)],
  Obj.var (encSS (V (cells0H [P0, P1, Obj.var (encSS s)]) n0).s)])
  else
  k
  (Out.panic (errV n13)
  [p0H [P0, P1, Obj.var (encSS s)], p1H [P0, P1, Obj.var (encSS s)],
  Obj.var (encSS (V (cells0H [P0, P1, Obj.var (encSS s)]) n0).s)])
  else none
  else
  bif s.k == 12 then
  bif c1 then
  bif n8 == 0 then
  k
  (Out.ret (AVal.tuple [])
  [p0H [P0, P1, Obj.var (encSS s)], p1H [P0, P1, Obj.var (encSS s)],
  Obj.var (encSS (W (cells0H [P0, P1, Obj.var (encSS s)]) n0).s)])
  else
  k
  (Out.panic (errV n8)
  [p0H [P0, P1, Obj.var (encSS s)], p1H [P0, P1, Obj.var (encSS s)],
  Obj.var (encSS (W (cells0H [P0, P1, Obj.var (encSS s)]) n0).s)])
  else none
  else
  bif c14 then
  bif c14 then
  bif c1 then
  bif n15 == 0 then
  k
  (Out.ret (AVal.tuple [])
  [p0H [P0, P1, Obj.var (encSS s)], p1H [P0, P1, Obj.var (encSS s)],
  Obj.var (encSS (Re (cells0H [P0, P1, Obj.var (encSS s)]) n0).s)])
  else
  k
  (Out.panic (errV n15)
  [p0H [P0, P1, Obj.var (encSS s)], p1H [P0, P1, Obj.var (encSS s)],
  Obj.var (encSS (Re (cells0H [P0, P1, Obj.var (encSS s)]) n0).s)])
  else none
  else
  bif s.k == 15 then
  bif n0 == 62 then
  k
  (Out.ret (AVal.tuple [])
  [P0, P1,
  Obj.var
  [AVal.int IntKind.i64 0, AVal.str [], AVal.str [], AVal.int IntKind.u8 0,
  AVal.str [], AVal.str [], AVal.int IntKind.i64 0, AVal.str []]])
  else k (Out.ret (AVal.tuple []) [P0, P1, Obj.var (encSS s)])
  else
  bif
  tst
  (((OkR (cells0H [P0, P1, Obj.var (encSS s)]) ∧
  okE (cells0H [P0, P1, Obj.var (encSS s)])) ∧
  okc n0 = true) ∧
  SubL [AVal.ptr (Oid.hp 2) 0, AVal.int IntKind.u8 n0]
  [AVal.ptr (Oid.hp 2) 0, AVal.int IntKind.u8 n0] ∧
  [P0, P1, Obj.var (encSS s)] =
  [p0H [P0, P1, Obj.var (encSS s)], p1H [P0, P1, Obj.var (encSS s)],
  Obj.var (cells0H [P0, P1, Obj.var (encSS s)])]) then
  bif n16 == 0 then
  k
  (Out.ret (AVal.tuple [])
  [p0H [P0, P1, Obj.var (encSS s)], p1H [P0, P1, Obj.var (encSS s)],
  Obj.var (encSS (Ra (cells0H [P0, P1, Obj.var (encSS s)]) n0).s)])
  else
  k
  (Out.panic (errV n16)
  [p0H [P0, P1, Obj.var (encSS s)], p1H [P0, P1, Obj.var (encSS s)],
  Obj.var (encSS (Ra (cells0H [P0, P1, Obj.var (encSS s)]) n0).s)])
  else none
  else
  bif c17 then
  bif c17 then
  bif c1 then
  bif n15 == 0 then
  k
  (Out.ret (AVal.tuple [])
  [p0H [P0, P1, Obj.var (encSS s)], p1H [P0, P1, Obj.var (encSS s)],
  Obj.var (encSS (Re (cells0H [P0, P1, Obj.var (encSS s)]) n0).s)])
  else
  k
  (Out.panic (errV n15)
  [p0H [P0, P1, Obj.var (encSS s)], p1H [P0, P1, Obj.var (encSS s)],
  Obj.var (encSS (Re (cells0H [P0, P1, Obj.var (encSS s)]) n0).s)])
  else none
  else
  bif s.k == 15 then
  bif n0 == 62 then
  k
  (Out.ret (AVal.tuple [])
  [P0, P1,
  Obj.var
  [AVal.int IntKind.i64 0, AVal.str [], AVal.str [], AVal.int IntKind.u8 0,
  AVal.str [], AVal.str [], AVal.int IntKind.i64 0, AVal.str []]])
  else k (Out.ret (AVal.tuple []) [P0, P1, Obj.var (encSS s)])
  else
  bif
  tst
  (((OkR (cells0H [P0, P1, Obj.var (encSS s)]) ∧
  okE (cells0H [P0, P1, Obj.var (encSS s)])) ∧
  okc n0 = true) ∧
  SubL [AVal.ptr (Oid.hp 2) 0, AVal.int IntKind.u8 n0]
  [AVal.ptr (Oid.hp 2) 0, AVal.int IntKind.u8 n0] ∧
  [P0, P1, Obj.var (encSS s)] =
  [p0H [P0, P1, Obj.var (encSS s)], p1H [P0, P1, Obj.var (encSS s)],
  Obj.var (cells0H [P0, P1, Obj.var (encSS s)])]) then
  bif n16 == 0 then
  k
  (Out.ret (AVal.tuple [])
  [p0H [P0, P1, Obj.var (encSS s)], p1H [P0, P1, Obj.var (encSS s)],
  Obj.var (encSS (Ra (cells0H [P0, P1, Obj.var (encSS s)]) n0).s)])
  else
  k
  (Out.panic (errV n16)
  [p0H [P0, P1, Obj.var (encSS s)], p1H [P0, P1, Obj.var (encSS s)],
  Obj.var (encSS (Ra (cells0H [P0, P1, Obj.var (encSS s)]) n0).s)])
  else none
  else
  bif s.k == 16 then
  bif c1 then
  bif n15 == 0 then
  k
  (Out.ret (AVal.tuple [])
  [p0H [P0, P1, Obj.var (encSS s)], p1H [P0, P1, Obj.var (encSS s)],
  Obj.var (encSS (Re (cells0H [P0, P1, Obj.var (encSS s)]) n0).s)])
  else
  k
  (Out.panic (errV n15)
  [p0H [P0, P1, Obj.var (encSS s)], p1H [P0, P1, Obj.var (encSS s)],
  Obj.var (encSS (Re (cells0H [P0, P1, Obj.var (encSS s)]) n0).s)])
  else none
  else
  bif s.k == 15 then
  bif n0 == 62 then
  k
  (Out.ret (AVal.tuple [])
  [P0, P1,
  Obj.var
  [AVal.int IntKind.i64 0, AVal.str [], AVal.str [], AVal.int IntKind.u8 0,
  AVal.str [], AVal.str [], AVal.int IntKind.i64 0, AVal.str []]])
  else k (Out.ret (AVal.tuple []) [P0, P1, Obj.var (encSS s)])
  else
  bif
  tst
  (((OkR (cells0H [P0, P1, Obj.var (encSS s)]) ∧
  okE (cells0H [P0, P1, Obj.var (encSS s)])) ∧
  okc n0 = true) ∧
  SubL [AVal.ptr (Oid.hp 2) 0, AVal.int IntKind.u8 n0]
  [AVal.ptr (Oid.hp 2) 0, AVal.int IntKind.u8 n0] ∧
  [P0, P1, Obj.var (encSS s)] =
  [p0H [P0, P1, Obj.var (encSS s)], p1H [P0, P1, Obj.var (encSS s)],
  Obj.var (cells0H [P0, P1, Obj.var (encSS s)])]) then
  bif n16 == 0 then
  k
  (Out.ret (AVal.tuple [])
  [p0H [P0, P1, Obj.var (encSS s)], p1H [P0, P1, Obj.var (encSS s)],
  Obj.var (encSS (Ra (cells0H [P0, P1, Obj.var (encSS s)]) n0).s)])
  else
  k
  (Out.panic (errV n16)
  [p0H [P0, P1, Obj.var (encSS s)], p1H [P0, P1, Obj.var (encSS s)],
  Obj.var (encSS (Ra (cells0H [P0, P1, Obj.var (encSS s)]) n0).s)])
  else none
  else
  bif s.k == 10 then
  bif c1 then
  bif n13 == 0 then
  k
  (Out.ret (AVal.tuple [])
  [p0H [P0, P1, Obj.var (encSS s)], p1H [P0, P1, Obj.var (encSS s)],
  Obj.var (encSS (V (cells0H [P0, P1, Obj.var (encSS s)]) n0).s)])
  else
  k
  (Out.panic (errV n13)
  [p0H [P0, P1, Obj.var (encSS s)], p1H [P0, P1, Obj.var (encSS s)],
  Obj.var (encSS (V (cells0H [P0, P1, Obj.var (encSS s)]) n0).s)])
  else none
  else
  bif s.k == 12 then
  bif c1 then
  bif n8 == 0 then
  k
  (Out.ret (AVal.tuple [])
  [p0H [P0, P1, Obj.var (encSS s)], p1H [P0, P1, Obj.var (encSS s)],
  Obj.var (encSS (W (cells0H [P0, P1, Obj.var (encSS s)]) n0).s)])
  else
  k
  (Out.panic (errV n8)
  [p0H [P0, P1, Obj.var (encSS s)], p1H [P0, P1, Obj.var (encSS s)],
  Obj.var (encSS (W (cells0H [P0, P1, Obj.var (encSS s)]) n0).s)])
  else none
  else
  bif c14 then
  bif c14 then
  bif c1 then
  bif n15 == 0 then
  k
  (Out.ret (AVal.tuple [])
  [p0H [P0, P1, Obj.var (encSS s)], p1H [P0, P1, Obj.var (encSS s)],
  Obj.var (encSS (Re (cells0H [P0, P1, Obj.var (encSS s)]) n0).s)])
  else
  k
  (Out.panic (errV n15)
  [p0H [P0, P1, Obj.var (encSS s)], p1H [P0, P1, Obj.var (encSS s)],
  Obj.var (encSS (Re (cells0H [P0, P1, Obj.var (encSS s)]) n0).s)])
  else none
  else
  bif s.k == 15 then
  bif n0 == 62 then
  k
  (Out.ret (AVal.tuple [])
  [P0, P1,
  Obj.var
  [AVal.int IntKind.i64 0, AVal.str [], AVal.str [], AVal.int IntKind.u8 0,
  AVal.str [], AVal.str [], AVal.int IntKind.i64 0, AVal.str []]])
  else k (Out.ret (AVal.tuple []) [P0, P1, Obj.var (encSS s)])
  else
  bif
  tst
  (((OkR (cells0H [P0, P1, Obj.var (encSS s)]) ∧
  okE (cells0H [P0, P1, Obj.var (encSS s)])) ∧
  okc n0 = true) ∧
  SubL [AVal.ptr (Oid.hp 2) 0, AVal.int IntKind.u8 n0]
  [AVal.ptr (Oid.hp 2) 0, AVal.int IntKind.u8 n0] ∧
  [P0, P1, Obj.var (encSS s)] =
  [p0H [P0, P1, Obj.var (encSS s)], p1H [P0, P1, Obj.var (encSS s)],
  Obj.var (cells0H [P0, P1, Obj.var (encSS s)])]) then
  bif n16 == 0 then
  k
  (Out.ret (AVal.tuple [])
  [p0H [P0, P1, Obj.var (encSS s)], p1H [P0, P1, Obj.var (encSS s)],
  Obj.var (encSS (Ra (cells0H [P0, P1, Obj.var (encSS s)]) n0).s)])
  else
  k
  (Out.panic (errV n16)
  [p0H [P0, P1, Obj.var (encSS s)], p1H [P0, P1, Obj.var (encSS s)],
  Obj.var (encSS (Ra (cells0H [P0, P1, Obj.var (encSS s)]) n0).s)])
  else none
  else
  bif c17 then
  bif c17 then
  bif c1 then
  bif n15 == 0 then
  k
  (Out.ret (AVal.tuple [])
  [p0H [P0, P1, Obj.var (encSS s)], p1H [P0, P1, Obj.var (encSS s)],
  Obj.var (encSS (Re (cells0H [P0, P1, Obj.var (encSS s)]) n0).s)])
  else
  k
  (Out.panic (errV n15)
  [p0H [P0, P1, Obj.var (encSS s)], p1H [P0, P1, Obj.var (encSS s)],
  Obj.var (encSS (Re (cells0H [P0, P1, Obj.var (encSS s)]) n0).s)])
  else none
  else
  bif s.k == 15 then
  bif n0 == 62 then
  k
  (Out.ret (AVal.tuple [])
  [P0, P1,
  Obj.var
  [AVal.int IntKind.i64 0, AVal.str [], AVal.str [], AVal.int IntKind.u8 0,
  AVal.str [], AVal.str [], AVal.int IntKind.i64 0, AVal.str []]])
  else k (Out.ret (AVal.tuple []) [P0, P1, Obj.var (encSS s)])
  else
  bif
  tst
  (((OkR (cells0H [P0, P1, Obj.var (encSS s)]) ∧
  okE (cells0H [P0, P1, Obj.var (encSS s)])) ∧
  okc n0 = true) ∧
  SubL [AVal.ptr (Oid.hp 2) 0, AVal.int IntKind.u8 n0]
  [AVal.ptr (Oid.hp 2) 0, AVal.int IntKind.u8 n0] ∧
  [P0, P1, Obj.var (encSS s)] =
  [p0H [P0, P1, Obj.var (encSS s)], p1H [P0, P1, Obj.var (encSS s)],
  Obj.var (cells0H [P0, P1, Obj.var (encSS s)])]) then
  bif n16 == 0 then
  k
  (Out.ret (AVal.tuple [])
  [p0H [P0, P1, Obj.var (encSS s)], p1H [P0, P1, Obj.var (encSS s)],
  Obj.var (encSS (Ra (cells0H [P0, P1, Obj.var (encSS s)]) n0).s)])
  else
  k
  (Out.panic (errV n16)
  [p0H [P0, P1, Obj.var (encSS s)], p1H [P0, P1, Obj.var (encSS s)],
  Obj.var (encSS (Ra (cells0H [P0, P1, Obj.var (encSS s)]) n0).s)])
  else none
  else
  bif s.k == 16 then
  bif c1 then
  bif n15 == 0 then
  k
  (Out.ret (AVal.tuple [])
  [p0H [P0, P1, Obj.var (encSS s)], p1H [P0, P1, Obj.var (encSS s)],
  Obj.var (encSS (Re (cells0H [P0, P1, Obj.var (encSS s)]) n0).s)])
  else
  k
  (Out.panic (errV n15)
  [p0H [P0, P1, Obj.var (encSS s)], p1H [P0, P1, Obj.var (encSS s)],
  Obj.var (encSS (Re (cells0H [P0, P1, Obj.var (encSS s)]) n0).s)])
  else none
  else
  bif s.k == 15 then
  bif n0 == 62 then
  k
  (Out.ret (AVal.tuple [])
  [P0, P1,
  Obj.var
  [AVal.int IntKind.i64 0, AVal.str [], AVal.str [], AVal.int IntKind.u8 0,
  AVal.str [], AVal.str [], AVal.int IntKind.i64 0, AVal.str []]])
  else k (Out.ret (AVal.tuple []) [P0, P1, Obj.var (encSS s)])
  else
  bif
  tst
  (((OkR (cells0H [P0, P1, Obj.var (encSS s)]) ∧
  okE (cells0H [P0, P1, Obj.var (encSS s)])) ∧
  okc n0 = true) ∧
  SubL [AVal.ptr (Oid.hp 2) 0, AVal.int IntKind.u8 n0]
  [AVal.ptr (Oid.hp 2) 0, AVal.int IntKind.u8 n0] ∧
  [P0, P1, Obj.var (encSS s)] =
  [p0H [P0, P1, Obj.var (encSS s)], p1H [P0, P1, Obj.var (encSS s)],
  Obj.var (cells0H [P0, P1, Obj.var (encSS s)])]) then
  bif n16 == 0 then
  k
  (Out.ret (AVal.tuple [])
  [p0H [P0, P1, Obj.var (encSS s)], p1H [P0, P1, Obj.var (encSS s)],
  Obj.var (encSS (Ra (cells0H [P0, P1, Obj.var (encSS s)]) n0).s)])
  else
  k
  (Out.panic (errV n16)
  [p0H [P0, P1, Obj.var (encSS s)], p1H [P0, P1, Obj.var (encSS s)],
  Obj.var (encSS (Ra (cells0H [P0, P1, Obj.var (encSS s)]) n0).s)])
  else none
  else
  bif s.k == 4 then
  bif c1 then
  bif n6 == 0 then
  k
  (Out.ret (AVal.tuple [])
  [p0H [P0, P1, Obj.var (encSS s)], p1H [P0, P1, Obj.var (encSS s)],
  Obj.var (encSS (T (cells0H [P0, P1, Obj.var (encSS s)]) n0).s)])
  else
  k
  (Out.panic (errV n6)
  [p0H [P0, P1, Obj.var (encSS s)], p1H [P0, P1, Obj.var (encSS s)],
  Obj.var (encSS (T (cells0H [P0, P1, Obj.var (encSS s)]) n0).s)])
  else none
  else
  bif c7 then
  bif c7 then
  bif c1 then
  bif n8 == 0 then
  k
  (Out.ret (AVal.tuple [])
  [p0H [P0, P1, Obj.var (encSS s)], p1H [P0, P1, Obj.var (encSS s)],
  Obj.var (encSS (W (cells0H [P0, P1, Obj.var (encSS s)]) n0).s)])
  else
  k
  (Out.panic (errV n8)
  [p0H [P0, P1, Obj.var (encSS s)], p1H [P0, P1, Obj.var (encSS s)],
  Obj.var (encSS (W (cells0H [P0, P1, Obj.var (encSS s)]) n0).s)])
  else none
  else
  bif c9 then
  bif c9 then
  bif c1 then
  bif n10 == 0 then
  k
  (Out.ret (AVal.tuple [])
  [p0H [P0, P1, Obj.var (encSS s)], p1H [P0, P1, Obj.var (encSS s)],
  Obj.var (encSS (A (cells0H [P0, P1, Obj.var (encSS s)]) n0).s)])
  else
  k
  (Out.panic (errV n10)
  [p0H [P0, P1, Obj.var (encSS s)], p1H [P0, P1, Obj.var (encSS s)],
  Obj.var (encSS (A (cells0H [P0, P1, Obj.var (encSS s)]) n0).s)])
  else none
  else
  bif s.k == 8 then
  bif c1 then
  bif n11 == 0 then
  k
  (Out.ret (AVal.tuple [])
  [p0H [P0, P1, Obj.var (encSS s)], p1H [P0, P1, Obj.var (encSS s)],
  Obj.var (encSS (Wa (cells0H [P0, P1, Obj.var (encSS s)]) n0).s)])
  else
  k
  (Out.panic (errV n11)
  [p0H [P0, P1, Obj.var (encSS s)], p1H [P0, P1, Obj.var (encSS s)],
  Obj.var (encSS (Wa (cells0H [P0, P1, Obj.var (encSS s)]) n0).s)])
  else none
  else
  bif c12 then
  bif c12 then
  bif c1 then
  bif n13 == 0 then
  k
  (Out.ret (AVal.tuple [])
  [p0H [P0, P1, Obj.var (encSS s)], p1H [P0, P1, Obj.var (encSS s)],
  Obj.var (encSS (V (cells0H [P0, P1, Obj.var (encSS s)]) n0).s)])
  else
  k
  (Out.panic (errV n13)
  [p0H [P0, P1, Obj.var (encSS s)], p1H [P0, P1, Obj.var (encSS s)],
  Obj.var (encSS (V (cells0H [P0, P1, Obj.var (encSS s)]) n0).s)])
  else none
  else
  bif s.k == 12 then
  bif c1 then
  bif n8 == 0 then
  k
  (Out.ret (AVal.tuple [])
  [p0H [P0, P1, Obj.var (encSS s)], p1H [P0, P1, Obj.var (encSS s)],
  Obj.var (encSS (W (cells0H [P0, P1, Obj.var (encSS s)]) n0).s)])
  else
  k
  (Out.panic (errV n8)
  [p0H [P0, P1, Obj.var (encSS s)], p1H [P0, P1, Obj.var (encSS s)],
  Obj.var (encSS (W (cells0H [P0, P1, Obj.var (encSS s)]) n0).s)])
  else none
  else
  bif c14 then
  bif c14 then
  bif c1 then
  bif n15 == 0 then
  k
  (Out.ret (AVal.tuple [])
  [p0H [P0, P1, Obj.var (encSS s)], p1H [P0, P1, Obj.var (encSS s)],
  Obj.var (encSS (Re (cells0H [P0, P1, Obj.var (encSS s)]) n0).s)])
  else
  k
  (Out.panic (errV n15)
  [p0H [P0, P1, Obj.var (encSS s)], p1H [P0, P1, Obj.var (encSS s)],
  Obj.var (encSS (Re (cells0H [P0, P1, Obj.var (encSS s)]) n0).s)])
  else none
  else
  bif s.k == 15 then
  bif n0 == 62 then
  k
  (Out.ret (AVal.tuple [])
  [P0, P1,
  Obj.var
  [AVal.int IntKind.i64 0, AVal.str [], AVal.str [], AVal.int IntKind.u8 0,
  AVal.str [], AVal.str [], AVal.int IntKind.i64 0, AVal.str []]])
  else k (Out.ret (AVal.tuple []) [P0, P1, Obj.var (encSS s)])
  else
  bif
  tst
  (((OkR (cells0H [P0, P1, Obj.var (encSS s)]) ∧
  okE (cells0H [P0, P1, Obj.var (encSS s)])) ∧
  okc n0 = true) ∧
  SubL [AVal.ptr (Oid.hp 2) 0, AVal.int IntKind.u8 n0]
  [AVal.ptr (Oid.hp 2) 0, AVal.int IntKind.u8 n0] ∧
  [P0, P1, Obj.var (encSS s)] =
  [p0H [P0, P1, Obj.var (encSS s)], p1H [P0, P1, Obj.var (encSS s)],
  Obj.var (cells0H [P0, P1, Obj.var (encSS s)])]) then
  bif n16 == 0 then
  k
  (Out.ret (AVal.tuple [])
  [p0H [P0, P1, Obj.var (encSS s)], p1H [P0, P1, Obj.var (encSS s)],
  Obj.var (encSS (Ra (cells0H [P0, P1, Obj.var (encSS s)]) n0).s)])
  else
  k
  (Out.panic (errV n16)
  [p0H [P0, P1, Obj.var (encSS s)], p1H [P0, P1, Obj.var (encSS s)],
  Obj.var (encSS (Ra (cells0H [P0, P1, Obj.var (encSS s)]) n0).s)])
  else none
  else
  bif c17 then
  bif c17 then
  bif c1 then
  bif n15 == 0 then
  k
  (Out.ret (AVal.tuple [])
  [p0H [P0, P1, Obj.var (encSS s)], p1H [P0, P1, Obj.var (encSS s)],
  Obj.var (encSS (Re (cells0H [P0, P1, Obj.var (encSS s)]) n0).s)])
  else
  k
  (Out.panic (errV n15)
  [p0H [P0, P1, Obj.var (encSS s)], p1H [P0, P1, Obj.var (encSS s)],
  Obj.var (encSS (Re (cells0H [P0, P1, Obj.var (encSS s)]) n0).s)])
  else none
  else
  bif s.k == 15 then
  bif n0 == 62 then
  k
  (Out.ret (AVal.tuple [])
  [P0, P1,
  Obj.var
  [AVal.int IntKind.i64 0, AVal.str [], AVal.str [], AVal.int IntKind.u8 0,
  AVal.str [], AVal.str [], AVal.int IntKind.i64 0, AVal.str []]])
  else k (Out.ret (AVal.tuple []) [P0, P1, Obj.var (encSS s)])
  else
  bif
  tst
  (((OkR (cells0H [P0, P1, Obj.var (encSS s)]) ∧
  okE (cells0H [P0, P1, Obj.var (encSS s)])) ∧
  okc n0 = true) ∧
  SubL [AVal.ptr (Oid.hp 2) 0, AVal.int IntKind.u8 n0]
  [AVal.ptr (Oid.hp 2) 0, AVal.int IntKind.u8 n0] ∧
  [P0, P1, Obj.var (encSS s)] =
  [p0H [P0, P1, Obj.var (encSS s)], p1H [P0, P1, Obj.var (encSS s)],
  Obj.var (cells0H [P0, P1, Obj.var (encSS s)])]) then
  bif n16 == 0 then
  k
  (Out.ret (AVal.tuple [])
  [p0H [P0, P1, Obj.var (encSS s)], p1H [P0, P1, Obj.var (encSS s)],
  Obj.var (encSS (Ra (cells0H [P0, P1, Obj.var (encSS s)]) n0).s)])
  else
  k
  (Out.panic (errV n16)
  [p0H [P0, P1, Obj.var (encSS s)], p1H [P0, P1, Obj.var (encSS s)],
  Obj.var (encSS (Ra (cells0H [P0, P1, Obj.var (encSS s)]) n0).s)])
  else none
  else
  bif s.k == 16 then
  bif c1 then
  bif n15 == 0 then
  k
  (Out.ret (AVal.tuple [])
  [p0H [P0, P1, Obj.var (encSS s)], p1H [P0, P1, Obj.var (encSS s)],
  Obj.var (encSS (Re (cells0H [P0, P1, Obj.var (encSS s)]) n0).s)])
  else
  k
  (Out.panic (errV n15)
  [p0H [P0, P1, Obj.var (encSS s)], p1H [P0, P1, Obj.var (encSS s)],
  Obj.var (encSS (Re (cells0H [P0, P1, Obj.var (encSS s)]) n0).s)])
  else none
  else
  bif s.k == 15 then
  bif n0 == 62 then
  k
  (Out.ret (AVal.tuple [])
  [P0, P1,
  Obj.var
  [AVal.int IntKind.i64 0, AVal.str [], AVal.str [], AVal.int IntKind.u8 0,
  AVal.str [], AVal.str [], AVal.int IntKind.i64 0, AVal.str []]])
  else k (Out.ret (AVal.tuple []) [P0, P1, Obj.var (encSS s)])
  else
  bif
  tst
  (((OkR (cells0H [P0, P1, Obj.var (encSS s)]) ∧
  okE (cells0H [P0, P1, Obj.var (encSS s)])) ∧
  okc n0 = true) ∧
  SubL [AVal.ptr (Oid.hp 2) 0, AVal.int IntKind.u8 n0]
  [AVal.ptr (Oid.hp 2) 0, AVal.int IntKind.u8 n0] ∧
  [P0, P1, Obj.var (encSS s)] =
  [p0H [P0, P1, Obj.var (encSS s)], p1H [P0, P1, Obj.var (encSS s)],
  Obj.var (cells0H [P0, P1, Obj.var (encSS s)])]) then
  bif n16 == 0 then
  k
  (Out.ret (AVal.tuple [])
  [p0H [P0, P1, Obj.var (encSS s)], p1H [P0, P1, Obj.var (encSS s)],
  Obj.var (encSS (Ra (cells0H [P0, P1, Obj.var (encSS s)]) n0).s)])
  else
  k
  (Out.panic (errV n16)
  [p0H [P0, P1, Obj.var (encSS s)], p1H [P0, P1, Obj.var (encSS s)],
  Obj.var (encSS (Ra (cells0H [P0, P1, Obj.var (encSS s)]) n0).s)])
  else none
  else
  bif s.k == 10 then
  bif c1 then
  bif n13 == 0 then
  k
  (Out.ret (AVal.tuple [])
  [p0H [P0, P1, Obj.var (encSS s)], p1H [P0, P1, Obj.var (encSS s)],
  Obj.var (encSS (V (cells0H [P0, P1, Obj.var (encSS s)]) n0).s)])
  else
  k
  (Out.panic (errV n13)
  [p0H [P0, P1, Obj.var (encSS s)], p1H [P0, P1, Obj.var (encSS s)],
  Obj.var (encSS (V (cells0H [P0, P1, Obj.var (encSS s)]) n0).s)])
  else none
  else
  bif s.k == 12 then
  bif c1 then
  bif n8 == 0 then
  k
  (Out.ret (AVal.tuple [])
  [p0H [P0, P1, Obj.var (encSS s)], p1H [P0, P1, Obj.var (encSS s)],
  Obj.var (encSS (W (cells0H [P0, P1, Obj.var (encSS s)]) n0).s)])
  else
  k
  (Out.panic (errV n8)
  [p0H [P0, P1, Obj.var (encSS s)], p1H [P0, P1, Obj.var (encSS s)],
  Obj.var (encSS (W (cells0H [P0, P1, Obj.var (encSS s)]) n0).s)])
  else none
  else
  bif c14 then
  bif c14 then
  bif c1 then
  bif n15 == 0 then
  k
  (Out.ret (AVal.tuple [])
  [p0H [P0, P1, Obj.var (encSS s)], p1H [P0, P1, Obj.var (encSS s)],
  Obj.var (encSS (Re (cells0H [P0, P1, Obj.var (encSS s)]) n0).s)])
  else
  k
  (Out.panic (errV n15)
  [p0H [P0, P1, Obj.var (encSS s)], p1H [P0, P1, Obj.var (encSS s)],
  Obj.var (encSS (Re (cells0H [P0, P1, Obj.var (encSS s)]) n0).s)])
  else none
  else
  bif s.k == 15 then
  bif n0 == 62 then
  k
  (Out.ret (AVal.tuple [])
  [P0, P1,
  Obj.var
  [AVal.int IntKind.i64 0, AVal.str [], AVal.str [], AVal.int IntKind.u8 0,
  AVal.str [], AVal.str [], AVal.int IntKind.i64 0, AVal.str []]])
  else k (Out.ret (AVal.tuple []) [P0, P1, Obj.var (encSS s)])
  else
  bif
  tst
  (((OkR (cells0H [P0, P1, Obj.var (encSS s)]) ∧
  okE (cells0H [P0, P1, Obj.var (encSS s)])) ∧
  okc n0 = true) ∧
  SubL [AVal.ptr (Oid.hp 2) 0, AVal.int IntKind.u8 n0]
  [AVal.ptr (Oid.hp 2) 0, AVal.int IntKind.u8 n0] ∧
  [P0, P1, Obj.var (encSS s)] =
  [p0H [P0, P1, Obj.var (encSS s)], p1H [P0, P1, Obj.var (encSS s)],
  Obj.var (cells0H [P0, P1, Obj.var (encSS s)])]) then
  bif n16 == 0 then
  k
  (Out.ret (AVal.tuple [])
  [p0H [P0, P1, Obj.var (encSS s)], p1H [P0, P1, Obj.var (encSS s)],
  Obj.var (encSS (Ra (cells0H [P0, P1, Obj.var (encSS s)]) n0).s)])
  else
  k
  (Out.panic (errV n16)
  [p0H [P0, P1, Obj.var (encSS s)], p1H [P0, P1, Obj.var (encSS s)],
  Obj.var (encSS (Ra (cells0H [P0, P1, Obj.var (encSS s)]) n0).s)])
  else none
  else
  bif c17 then
  bif c17 then
  bif c1 then
  bif n15 == 0 then
  k
  (Out.ret (AVal.tuple [])
  [p0H [P0, P1, Obj.var (encSS s)], p1H [P0, P1, Obj.var (encSS s)],
  Obj.var (encSS (Re (cells0H [P0, P1, Obj.var (encSS s)]) n0).s)])
  else
  k
  (Out.panic (errV n15)
  [p0H [P0, P1, Obj.var (encSS s)], p1H [P0, P1, Obj.var (encSS s)],
  Obj.var (encSS (Re (cells0H [P0, P1, Obj.var (encSS s)]) n0).s)])
  else none
  else
  bif s.k == 15 then
  bif n0 == 62 then
  k
  (Out.ret (AVal.tuple [])
  [P0, P1,
  Obj.var
  [AVal.int IntKind.i64 0, AVal.str [], AVal.str [], AVal.int IntKind.u8 0,
  AVal.str [], AVal.str [], AVal.int IntKind.i64 0, AVal.str []]])
  else k (Out.ret (AVal.tuple []) [P0, P1, Obj.var (encSS s)])
  else
  bif
  tst
  (((OkR (cells0H [P0, P1, Obj.var (encSS s)]) ∧
  okE (cells0H [P0, P1, Obj.var (encSS s)])) ∧
  okc n0 = true) ∧
  SubL [AVal.ptr (Oid.hp 2) 0, AVal.int IntKind.u8 n0]
  [AVal.ptr (Oid.hp 2) 0, AVal.int IntKind.u8 n0] ∧
  [P0, P1, Obj.var (encSS s)] =
  [p0H [P0, P1, Obj.var (encSS s)], p1H [P0, P1, Obj.var (encSS s)],
  Obj.var (cells0H [P0, P1, Obj.var (encSS s)])]) then
  bif n16 == 0 then
  k
  (Out.ret (AVal.tuple [])
  [p0H [P0, P1, Obj.var (encSS s)], p1H [P0, P1, Obj.var (encSS s)],
  Obj.var (encSS (Ra (cells0H [P0, P1, Obj.var (encSS s)]) n0).s)])
  else
  k
  (Out.panic (errV n16)
  [p0H [P0, P1, Obj.var (encSS s)], p1H [P0, P1, Obj.var (encSS s)],
  Obj.var (encSS (Ra (cells0H [P0, P1, Obj.var (encSS s)]) n0).s)])
  else none
  else
  bif s.k == 16 then
  bif c1 then
  bif n15 == 0 then
  k
  (Out.ret (AVal.tuple [])
  [p0H [P0, P1, Obj.var (encSS s)], p1H [P0, P1, Obj.var (encSS s)],
  Obj.var (encSS (Re (cells0H [P0, P1, Obj.var (encSS s)]) n0).s)])
  else
  k
  (Out.panic (errV n15)
  [p0H [P0, P1, Obj.var (encSS s)], p1H [P0, P1, Obj.var (encSS s)],
  Obj.var (encSS (Re (cells0H [P0, P1, Obj.var (encSS s)]) n0).s)])
  else none
  else
  bif s.k == 15 then
  bif n0 == 62 then
  k
  (Out.ret (AVal.tuple [])
  [P0, P1,
  Obj.var
  [AVal.int IntKind.i64 0, AVal.str [], AVal.str [], AVal.int IntKind.u8 0,
  AVal.str [], AVal.str [], AVal.int IntKind.i64 0, AVal.str []]])
  else k (Out.ret (AVal.tuple []) [P0, P1, Obj.var (encSS s)])
  else
  bif
  tst
  (((OkR (cells0H [P0, P1, Obj.var (encSS s)]) ∧
  okE (cells0H [P0, P1, Obj.var (encSS s)])) ∧
  okc n0 = true) ∧
  SubL [AVal.ptr (Oid.hp 2) 0, AVal.int IntKind.u8 n0]
  [AVal.ptr (Oid.hp 2) 0, AVal.int IntKind.u8 n0] ∧
  [P0, P1, Obj.var (encSS s)] =
  [p0H [P0, P1, Obj.var (encSS s)], p1H [P0, P1, Obj.var (encSS s)],
  Obj.var (cells0H [P0, P1, Obj.var (encSS s)])]) then
  bif n16 == 0 then
  k
  (Out.ret (AVal.tuple [])
  [p0H [P0, P1, Obj.var (encSS s)], p1H [P0, P1, Obj.var (encSS s)],
  Obj.var (encSS (Ra (cells0H [P0, P1, Obj.var (encSS s)]) n0).s)])
  else
  k
  (Out.panic (errV n16)
  [p0H [P0, P1, Obj.var (encSS s)], p1H [P0, P1, Obj.var (encSS s)],
  Obj.var (encSS (Ra (cells0H [P0, P1, Obj.var (encSS s)]) n0).s)])
  else none
  else
  bif s.k == 7 then
  bif c1 then
  bif n10 == 0 then
  k
  (Out.ret (AVal.tuple [])
  [p0H [P0, P1, Obj.var (encSS s)], p1H [P0, P1, Obj.var (encSS s)],
  Obj.var (encSS (A (cells0H [P0, P1, Obj.var (encSS s)]) n0).s)])
  else
  k
  (Out.panic (errV n10)
  [p0H [P0, P1, Obj.var (encSS s)], p1H [P0, P1, Obj.var (encSS s)],
  Obj.var (encSS (A (cells0H [P0, P1, Obj.var (encSS s)]) n0).s)])
  else none
  else
  bif s.k == 8 then
  bif c1 then
  bif n11 == 0 then
  k
  (Out.ret (AVal.tuple [])
  [p0H [P0, P1, Obj.var (encSS s)], p1H [P0, P1, Obj.var (encSS s)],
  Obj.var (encSS (Wa (cells0H [P0, P1, Obj.var (encSS s)]) n0).s)])
  else
  k
  (Out.panic (errV n11)
  [p0H [P0, P1, Obj.var (encSS s)], p1H [P0, P1, Obj.var (encSS s)],
  Obj.var (encSS (Wa (cells0H [P0, P1, Obj.var (encSS s)]) n0).s)])
  else none
  else
  bif c12 then
  bif c12 then
  bif c1 then
  bif n13 == 0 then
  k
  (Out.ret (AVal.tuple [])
  [p0H [P0, P1, Obj.var (encSS s)], p1H [P0, P1, Obj.var (encSS s)],
  Obj.var (encSS (V (cells0H [P0, P1, Obj.var (encSS s)]) n0).s)])
  else
  k
  (Out.panic (errV n13)
  [p0H [P0, P1, Obj.var (encSS s)], p1H [P0, P1, Obj.var (encSS s)],
  Obj.var (encSS (V (cells0H [P0, P1, Obj.var (encSS s)]) n0).s)])
  else none
  else
  bif s.k == 12 then
  bif c1 then
  bif n8 == 0 then
  k
  (Out.ret (AVal.tuple [])
  [p0H [P0, P1, Obj.var (encSS s)], p1H [P0, P1, Obj.var (encSS s)],
  Obj.var (encSS (W (cells0H [P0, P1, Obj.var (encSS s)]) n0).s)])
  else
  k
  (Out.panic (errV n8)
  [p0H [P0, P1, Obj.var (encSS s)], p1H [P0, P1, Obj.var (encSS s)],
  Obj.var (encSS (W (cells0H [P0, P1, Obj.var (encSS s)]) n0).s)])
  else none
  else
  bif c14 then
  bif c14 then
  bif c1 then
  bif n15 == 0 then
  k
  (Out.ret (AVal.tuple [])
  [p0H [P0, P1, Obj.var (encSS s)], p1H [P0, P1, Obj.var (encSS s)],
  Obj.var (encSS (Re (cells0H [P0, P1, Obj.var (encSS s)]) n0).s)])
  else
  k
  (Out.panic (errV n15)
  [p0H [P0, P1, Obj.var (encSS s)], p1H [P0, P1, Obj.var (encSS s)],
  Obj.var (encSS (Re (cells0H [P0, P1, Obj.var (encSS s)]) n0).s)])
  else none
  else
  bif s.k == 15 then
  bif n0 == 62 then
  k
  (Out.ret (AVal.tuple [])
  [P0, P1,
  Obj.var
  [AVal.int IntKind.i64 0, AVal.str [], AVal.str [], AVal.int IntKind.u8 0,
  AVal.str [], AVal.str [], AVal.int IntKind.i64 0, AVal.str []]])
  else k (Out.ret (AVal.tuple []) [P0, P1, Obj.var (encSS s)])
  else
  bif
  tst
  (((OkR (cells0H [P0, P1, Obj.var (encSS s)]) ∧
  okE (cells0H [P0, P1, Obj.var (encSS s)])) ∧
  okc n0 = true) ∧
  SubL [AVal.ptr (Oid.hp 2) 0, AVal.int IntKind.u8 n0]
  [AVal.ptr (Oid.hp 2) 0, AVal.int IntKind.u8 n0] ∧
  [P0, P1, Obj.var (encSS s)] =
  [p0H [P0, P1, Obj.var (encSS s)], p1H [P0, P1, Obj.var (encSS s)],
  Obj.var (cells0H [P0, P1, Obj.var (encSS s)])]) then
  bif n16 == 0 then
  k
  (Out.ret (AVal.tuple [])
  [p0H [P0, P1, Obj.var (encSS s)], p1H [P0, P1, Obj.var (encSS s)],
  Obj.var (encSS (Ra (cells0H [P0, P1, Obj.var (encSS s)]) n0).s)])
  else
  k
  (Out.panic (errV n16)
  [p0H [P0, P1, Obj.var (encSS s)], p1H [P0, P1, Obj.var (encSS s)],
  Obj.var (encSS (Ra (cells0H [P0, P1, Obj.var (encSS s)]) n0).s)])
  else none
  else
  bif c17 then
  bif c17 then
  bif c1 then
  bif n15 == 0 then
  k
  (Out.ret (AVal.tuple [])
  [p0H [P0, P1, Obj.var (encSS s)], p1H [P0, P1, Obj.var (encSS s)],
  Obj.var (encSS (Re (cells0H [P0, P1, Obj.var (encSS s)]) n0).s)])
  else
  k
  (Out.panic (errV n15)
  [p0H [P0, P1, Obj.var (encSS s)], p1H [P0, P1, Obj.var (encSS s)],
  Obj.var (encSS (Re (cells0H [P0, P1, Obj.var (encSS s)]) n0).s)])
  else none
  else
  bif s.k == 15 then
  bif n0 == 62 then
  k
  (Out.ret (AVal.tuple [])
  [P0, P1,
  Obj.var
  [AVal.int IntKind.i64 0, AVal.str [], AVal.str [], AVal.int IntKind.u8 0,
  AVal.str [], AVal.str [], AVal.int IntKind.i64 0, AVal.str []]])
  else k (Out.ret (AVal.tuple []) [P0, P1, Obj.var (encSS s)])
  else
  bif
  tst
  (((OkR (cells0H [P0, P1, Obj.var (encSS s)]) ∧
  okE (cells0H [P0, P1, Obj.var (encSS s)])) ∧
  okc n0 = true) ∧
  SubL [AVal.ptr (Oid.hp 2) 0, AVal.int IntKind.u8 n0]
  [AVal.ptr (Oid.hp 2) 0, AVal.int IntKind.u8 n0] ∧
  [P0, P1, Obj.var (encSS s)] =
  [p0H [P0, P1, Obj.var (encSS s)], p1H [P0, P1, Obj.var (encSS s)],
  Obj.var (cells0H [P0, P1, Obj.var (encSS s)])]) then
  bif n16 == 0 then
  k
  (Out.ret (AVal.tuple [])
  [p0H [P0, P1, Obj.var (encSS s)], p1H [P0, P1, Obj.var (encSS s)],
  Obj.var (encSS (Ra (cells0H [P0, P1, Obj.var (encSS s)]) n0).s)])
  else
  k
  (Out.panic (errV n16)
  [p0H [P0, P1, Obj.var (encSS s)], p1H [P0, P1, Obj.var (encSS s)],
  Obj.var (encSS (Ra (cells0H [P0, P1, Obj.var (encSS s)]) n0).s)])
  else none
  else
  bif s.k == 16 then
  bif c1 then
  bif n15 == 0 then
  k
  (Out.ret (AVal.tuple [])
  [p0H [P0, P1, Obj.var (encSS s)], p1H [P0, P1, Obj.var (encSS s)],
  Obj.var (encSS (Re (cells0H [P0, P1, Obj.var (encSS s)]) n0).s)])
  else
  k
  (Out.panic (errV n15)
  [p0H [P0, P1, Obj.var (encSS s)], p1H [P0, P1, Obj.var (encSS s)],
  Obj.var (encSS (Re (cells0H [P0, P1, Obj.var (encSS s)]) n0).s)])
  else none
  else
  bif s.k == 15 then
  bif n0 == 62 then
  k
  (Out.ret (AVal.tuple [])
  [P0, P1,
  Obj.var
  [AVal.int IntKind.i64 0, AVal.str [], AVal.str [], AVal.int IntKind.u8 0,
  AVal.str [], AVal.str [], AVal.int IntKind.i64 0, AVal.str []]])
  else k (Out.ret (AVal.tuple []) [P0, P1, Obj.var (encSS s)])
  else
  bif
  tst
  (((OkR (cells0H [P0, P1, Obj.var (encSS s)]) ∧
  okE (cells0H [P0, P1, Obj.var (encSS s)])) ∧
  okc n0 = true) ∧
  SubL [AVal.ptr (Oid.hp 2) 0, AVal.int IntKind.u8 n0]
  [AVal.ptr (Oid.hp 2) 0, AVal.int IntKind.u8 n0] ∧
  [P0, P1, Obj.var (encSS s)] =
  [p0H [P0, P1, Obj.var (encSS s)], p1H [P0, P1, Obj.var (encSS s)],
  Obj.var (cells0H [P0, P1, Obj.var (encSS s)])]) then
  bif n16 == 0 then
  k
  (Out.ret (AVal.tuple [])
  [p0H [P0, P1, Obj.var (encSS s)], p1H [P0, P1, Obj.var (encSS s)],
  Obj.var (encSS (Ra (cells0H [P0, P1, Obj.var (encSS s)]) n0).s)])
  else
  k
  (Out.panic (errV n16)
  [p0H [P0, P1, Obj.var (encSS s)], p1H [P0, P1, Obj.var (encSS s)],
  Obj.var (encSS (Ra (cells0H [P0, P1, Obj.var (encSS s)]) n0).s)])
  else none
  else
  bif s.k == 10 then
  bif c1 then
  bif n13 == 0 then
  k
  (Out.ret (AVal.tuple [])
  [p0H [P0, P1, Obj.var (encSS s)], p1H [P0, P1, Obj.var (encSS s)],
  Obj.var (encSS (V (cells0H [P0, P1, Obj.var (encSS s)]) n0).s)])
  else
  k
  (Out.panic (errV n13)
  [p0H [P0, P1, Obj.var (encSS s)], p1H [P0, P1, Obj.var (encSS s)],
  Obj.var (encSS (V (cells0H [P0, P1, Obj.var (encSS s)]) n0).s)])
  else none
  else
  bif s.k == 12 then
  bif c1 then
  bif n8 == 0 then
  k
  (Out.ret (AVal.tuple [])
  [p0H [P0, P1, Obj.var (encSS s)], p1H [P0, P1, Obj.var (encSS s)],
  Obj.var (encSS (W (cells0H [P0, P1, Obj.var (encSS s)]) n0).s)])
  else
  k
  (Out.panic (errV n8)
  [p0H [P0, P1, Obj.var (encSS s)], p1H [P0, P1, Obj.var (encSS s)],
  Obj.var (encSS (W (cells0H [P0, P1, Obj.var (encSS s)]) n0).s)])
  else none
  else
  bif c14 then
  bif c14 then
  bif c1 then
  bif n15 == 0 then
  k
  (Out.ret (AVal.tuple [])
  [p0H [P0, P1, Obj.var (encSS s)], p1H [P0, P1, Obj.var (encSS s)],
  Obj.var (encSS (Re (cells0H [P0, P1, Obj.var (encSS s)]) n0).s)])
  else
  k
  (Out.panic (errV n15)
  [p0H [P0, P1, Obj.var (encSS s)], p1H [P0, P1, Obj.var (encSS s)],
  Obj.var (encSS (Re (cells0H [P0, P1, Obj.var (encSS s)]) n0).s)])
  else none
  else
  bif s.k == 15 then
  bif n0 == 62 then
  k
  (Out.ret (AVal.tuple [])
  [P0, P1,
  Obj.var
  [AVal.int IntKind.i64 0, AVal.str [], AVal.str [], AVal.int IntKind.u8 0,
  AVal.str [], AVal.str [], AVal.int IntKind.i64 0, AVal.str []]])
  else k (Out.ret (AVal.tuple []) [P0, P1, Obj.var (encSS s)])
  else
  bif
  tst
  (((OkR (cells0H [P0, P1, Obj.var (encSS s)]) ∧
  okE (cells0H [P0, P1, Obj.var (encSS s)])) ∧
  okc n0 = true) ∧
  SubL [AVal.ptr (Oid.hp 2) 0, AVal.int IntKind.u8 n0]
  [AVal.ptr (Oid.hp 2) 0, AVal.int IntKind.u8 n0] ∧
  [P0, P1, Obj.var (encSS s)] =
  [p0H [P0, P1, Obj.var (encSS s)], p1H [P0, P1, Obj.var (encSS s)],
  Obj.var (cells0H [P0, P1, Obj.var (encSS s)])]) then
  bif n16 == 0 then
  k
  (Out.ret (AVal.tuple [])
  [p0H [P0, P1, Obj.var (encSS s)], p1H [P0, P1, Obj.var (encSS s)],
  Obj.var (encSS (Ra (cells0H [P0, P1, Obj.var (encSS s)]) n0).s)])
  else
  k
  (Out.panic (errV n16)
  [p0H [P0, P1, Obj.var (encSS s)], p1H [P0, P1, Obj.var (encSS s)],
  Obj.var (encSS (Ra (cells0H [P0, P1, Obj.var (encSS s)]) n0).s)])
  else none
  else
  bif c17 then
  bif c17 then
  bif c1 then
  bif n15 == 0 then
  k
  (Out.ret (AVal.tuple [])
  [p0H [P0, P1, Obj.var (encSS s)], p1H [P0, P1, Obj.var (encSS s)],
  Obj.var (encSS (Re (cells0H [P0, P1, Obj.var (encSS s)]) n0).s)])
  else
  k
  (Out.panic (errV n15)
  [p0H [P0, P1, Obj.var (encSS s)], p1H [P0, P1, Obj.var (encSS s)],
  Obj.var (encSS (Re (cells0H [P0, P1, Obj.var (encSS s)]) n0).s)])
  else none
  else
  bif s.k == 15 then
  bif n0 == 62 then
  k
  (Out.ret (AVal.tuple [])
  [P0, P1,
  Obj.var
  [AVal.int IntKind.i64 0, AVal.str [], AVal.str [], AVal.int IntKind.u8 0,
  AVal.str [], AVal.str [], AVal.int IntKind.i64 0, AVal.str []]])
  else k (Out.ret (AVal.tuple []) [P0, P1, Obj.var (encSS s)])
  else
  bif
  tst
  (((OkR (cells0H [P0, P1, Obj.var (encSS s)]) ∧
  okE (cells0H [P0, P1, Obj.var (encSS s)])) ∧
  okc n0 = true) ∧
  SubL [AVal.ptr (Oid.hp 2) 0, AVal.int IntKind.u8 n0]
  [AVal.ptr (Oid.hp 2) 0, AVal.int IntKind.u8 n0] ∧
  [P0, P1, Obj.var (encSS s)] =
  [p0H [P0, P1, Obj.var (encSS s)], p1H [P0, P1, Obj.var (encSS s)],
  Obj.var (cells0H [P0, P1, Obj.var (encSS s)])]) then
  bif n16 == 0 then
  k
  (Out.ret (AVal.tuple [])
  [p0H [P0, P1, Obj.var (encSS s)], p1H [P0, P1, Obj.var (encSS s)],
  Obj.var (encSS (Ra (cells0H [P0, P1, Obj.var (encSS s)]) n0).s)])
  else
  k
  (Out.panic (errV n16)
  [p0H [P0, P1, Obj.var (encSS s)], p1H [P0, P1, Obj.var (encSS s)],
  Obj.var (encSS (Ra (cells0H [P0, P1, Obj.var (encSS s)]) n0).s)])
  else none
  else
  bif s.k == 16 then
  bif c1 then
  bif n15 == 0 then
  k
  (Out.ret (AVal.tuple [])
  [p0H [P0, P1, Obj.var (encSS s)], p1H [P0, P1, Obj.var (encSS s)],
  Obj.var (encSS (Re (cells0H [P0, P1, Obj.var (encSS s)]) n0).s)])
  else
  k
  (Out.panic (errV n15)
  [p0H [P0, P1, Obj.var (encSS s)], p1H [P0, P1, Obj.var (encSS s)],
  Obj.var (encSS (Re (cells0H [P0, P1, Obj.var (encSS s)]) n0).s)])
  else none
  else
  bif s.k == 15 then
  bif n0 == 62 then
  k
  (Out.ret (AVal.tuple [])
  [P0, P1,
  Obj.var
  [AVal.int IntKind.i64 0, AVal.str [], AVal.str [], AVal.int IntKind.u8 0,
  AVal.str [], AVal.str [], AVal.int IntKind.i64 0, AVal.str []]])
  else k (Out.ret (AVal.tuple []) [P0, P1, Obj.var (encSS s)])
  else
  bif
  tst
  (((OkR (cells0H [P0, P1, Obj.var (encSS s)]) ∧
  okE (cells0H [P0, P1, Obj.var (encSS s)])) ∧
  okc n0 = true) ∧
  SubL [AVal.ptr (Oid.hp 2) 0, AVal.int IntKind.u8 n0]
  [AVal.ptr (Oid.hp 2) 0, AVal.int IntKind.u8 n0] ∧
  [P0, P1, Obj.var (encSS s)] =
  [p0H [P0, P1, Obj.var (encSS s)], p1H [P0, P1, Obj.var (encSS s)],
  Obj.var (cells0H [P0, P1, Obj.var (encSS s)])]) then
  bif n16 == 0 then
  k
  (Out.ret (AVal.tuple [])
  [p0H [P0, P1, Obj.var (encSS s)], p1H [P0, P1, Obj.var (encSS s)],
  Obj.var (encSS (Ra (cells0H [P0, P1, Obj.var (encSS s)]) n0).s)])
  else
  k
  (Out.panic (errV n16)
  [p0H [P0, P1, Obj.var (encSS s)], p1H [P0, P1, Obj.var (encSS s)],
  Obj.var (encSS (Ra (cells0H [P0, P1, Obj.var (encSS s)]) n0).s)])
  else none
  else
  bif s.k == 11 then
  bif c1 then
  bif n8 == 0 then
  k
  (Out.ret (AVal.tuple [])
  [p0H [P0, P1, Obj.var (encSS s)], p1H [P0, P1, Obj.var (encSS s)],
  Obj.var (encSS (W (cells0H [P0, P1, Obj.var (encSS s)]) n0).s)])
  else
  k
  (Out.panic (errV n8)
  [p0H [P0, P1, Obj.var (encSS s)], p1H [P0, P1, Obj.var (encSS s)],
  Obj.var (encSS (W (cells0H [P0, P1, Obj.var (encSS s)]) n0).s)])
  else none
  else
  bif c9 then
  bif c9 then
  bif c1 then
  bif n10 == 0 then
  k
  (Out.ret (AVal.tuple [])
  [p0H [P0, P1, Obj.var (encSS s)], p1H [P0, P1, Obj.var (encSS s)],
  Obj.var (encSS (A (cells0H [P0, P1, Obj.var (encSS s)]) n0).s)])
  else
  k
  (Out.panic (errV n10)
  [p0H [P0, P1, Obj.var (encSS s)], p1H [P0, P1, Obj.var (encSS s)],
  Obj.var (encSS (A (cells0H [P0, P1, Obj.var (encSS s)]) n0).s)])
  else none
  else
  bif s.k == 8 then
  bif c1 then
  bif n11 == 0 then
  k
  (Out.ret (AVal.tuple [])
  [p0H [P0, P1, Obj.var (encSS s)], p1H [P0, P1, Obj.var (encSS s)],
  Obj.var (encSS (Wa (cells0H [P0, P1, Obj.var (encSS s)]) n0).s)])
  else
  k
  (Out.panic (errV n11)
  [p0H [P0, P1, Obj.var (encSS s)], p1H [P0, P1, Obj.var (encSS s)],
  Obj.var (encSS (Wa (cells0H [P0, P1, Obj.var (encSS s)]) n0).s)])
  else none
  else
  bif c12 then
  bif c12 then
  bif c1 then
  bif n13 == 0 then
  k
  (Out.ret (AVal.tuple [])
  [p0H [P0, P1, Obj.var (encSS s)], p1H [P0, P1, Obj.var (encSS s)],
  Obj.var (encSS (V (cells0H [P0, P1, Obj.var (encSS s)]) n0).s)])
  else
  k
  (Out.panic (errV n13)
  [p0H [P0, P1, Obj.var (encSS s)], p1H [P0, P1, Obj.var (encSS s)],
  Obj.var (encSS (V (cells0H [P0, P1, Obj.var (encSS s)]) n0).s)])
  else none
  else
  bif s.k == 12 then
  bif c1 then
  bif n8 == 0 then
  k
  (Out.ret (AVal.tuple [])
  [p0H [P0, P1, Obj.var (encSS s)], p1H [P0, P1, Obj.var (encSS s)],
  Obj.var (encSS (W (cells0H [P0, P1, Obj.var (encSS s)]) n0).s)])
  else
  k
  (Out.panic (errV n8)
  [p0H [P0, P1, Obj.var (encSS s)], p1H [P0, P1, Obj.var (encSS s)],
  Obj.var (encSS (W (cells0H [P0, P1, Obj.var (encSS s)]) n0).s)])
  else none
  else
  bif c14 then
  bif c14 then
  bif c1 then
  bif n15 == 0 then
  k
  (Out.ret (AVal.tuple [])
  [p0H [P0, P1, Obj.var (encSS s)], p1H [P0, P1, Obj.var (encSS s)],
  Obj.var (encSS (Re (cells0H [P0, P1, Obj.var (encSS s)]) n0).s)])
  else
  k
  (Out.panic (errV n15)
  [p0H [P0, P1, Obj.var (encSS s)], p1H [P0, P1, Obj.var (encSS s)],
  Obj.var (encSS (Re (cells0H [P0, P1, Obj.var (encSS s)]) n0).s)])
  else none
  else
  bif s.k == 15 then
  bif n0 == 62 then
  k
  (Out.ret (AVal.tuple [])
  [P0, P1,
  Obj.var
  [AVal.int IntKind.i64 0, AVal.str [], AVal.str [], AVal.int IntKind.u8 0,
  AVal.str [], AVal.str [], AVal.int IntKind.i64 0, AVal.str []]])
  else k (Out.ret (AVal.tuple []) [P0, P1, Obj.var (encSS s)])
  else
  bif
  tst
  (((OkR (cells0H [P0, P1, Obj.var (encSS s)]) ∧
  okE (cells0H [P0, P1, Obj.var (encSS s)])) ∧
  okc n0 = true) ∧
  SubL [AVal.ptr (Oid.hp 2) 0, AVal.int IntKind.u8 n0]
  [AVal.ptr (Oid.hp 2) 0, AVal.int IntKind.u8 n0] ∧
  [P0, P1, Obj.var (encSS s)] =
  [p0H [P0, P1, Obj.var (encSS s)], p1H [P0, P1, Obj.var (encSS s)],
  Obj.var (cells0H [P0, P1, Obj.var (encSS s)])]) then
  bif n16 == 0 then
  k
  (Out.ret (AVal.tuple [])
  [p0H [P0, P1, Obj.var (encSS s)], p1H [P0, P1, Obj.var (encSS s)],
  Obj.var (encSS (Ra (cells0H [P0, P1, Obj.var (encSS s)]) n0).s)])
  else
  k
  (Out.panic (errV n16)
  [p0H [P0, P1, Obj.var (encSS s)], p1H [P0, P1, Obj.var (encSS s)],
  Obj.var (encSS (Ra (cells0H [P0, P1, Obj.var (encSS s)]) n0).s)])
  else none
  else
  bif c17 then
  bif c17 then
  bif c1 then
  bif n15 == 0 then
  k
  (Out.ret (AVal.tuple [])
  [p0H [P0, P1, Obj.var (encSS s)], p1H [P0, P1, Obj.var (encSS s)],
  Obj.var (encSS (Re (cells0H [P0, P1, Obj.var (encSS s)]) n0).s)])
  else
  k
  (Out.panic (errV n15)
  [p0H [P0, P1, Obj.var (encSS s)], p1H [P0, P1, Obj.var (encSS s)],
  Obj.var (encSS (Re (cells0H [P0, P1, Obj.var (encSS s)]) n0).s)])
  else none
  else
  bif s.k == 15 then
  bif n0 == 62 then
  k
  (Out.ret (AVal.tuple [])
  [P0, P1,
  Obj.var
  [AVal.int IntKind.i64 0, AVal.str [], AVal.str [], AVal.int IntKind.u8 0,
  AVal.str [], AVal.str [], AVal.int IntKind.i64 0, AVal.str []]])
  else k (Out.ret (AVal.tuple []) [P0, P1, Obj.var (encSS s)])
  else
  bif
  tst
  (((OkR (cells0H [P0, P1, Obj.var (encSS s)]) ∧
  okE (cells0H [P0, P1, Obj.var (encSS s)])) ∧
  okc n0 = true) ∧
  SubL [AVal.ptr (Oid.hp 2) 0, AVal.int IntKind.u8 n0]
  [AVal.ptr (Oid.hp 2) 0, AVal.int IntKind.u8 n0] ∧
  [P0, P1, Obj.var (encSS s)] =
  [p0H [P0, P1, Obj.var (encSS s)], p1H [P0, P1, Obj.var (encSS s)],
  Obj.var (cells0H [P0, P1, Obj.var (encSS s)])]) then
  bif n16 == 0 then
  k
  (Out.ret (AVal.tuple [])
  [p0H [P0, P1, Obj.var (encSS s)], p1H [P0, P1, Obj.var (encSS s)],
  Obj.var (encSS (Ra (cells0H [P0, P1, Obj.var (encSS s)]) n0).s)])
  else
  k
  (Out.panic (errV n16)
  [p0H [P0, P1, Obj.var (encSS s)], p1H [P0, P1, Obj.var (encSS s)],
  Obj.var (encSS (Ra (cells0H [P0, P1, Obj.var (encSS s)]) n0).s)])
  else none
  else
  bif s.k == 16 then
  bif c1 then
  bif n15 == 0 then
  k
  (Out.ret (AVal.tuple [])
  [p0H [P0, P1, Obj.var (encSS s)], p1H [P0, P1, Obj.var (encSS s)],
  Obj.var (encSS (Re (cells0H [P0, P1, Obj.var (encSS s)]) n0).s)])
  else
  k
  (Out.panic (errV n15)
  [p0H [P0, P1, Obj.var (encSS s)], p1H [P0, P1, Obj.var (encSS s)],
  Obj.var (encSS (Re (cells0H [P0, P1, Obj.var (encSS s)]) n0).s)])
  else none
  else
  bif s.k == 15 then
  bif n0 == 62 then
  k
  (Out.ret (AVal.tuple [])
  [P0, P1,
  Obj.var
  [AVal.int IntKind.i64 0, AVal.str [], AVal.str [], AVal.int IntKind.u8 0,
  AVal.str [], AVal.str [], AVal.int IntKind.i64 0, AVal.str []]])
  else k (Out.ret (AVal.tuple []) [P0, P1, Obj.var (encSS s)])
  else
  bif
  tst
  (((OkR (cells0H [P0, P1, Obj.var (encSS s)]) ∧
  okE (cells0H [P0, P1, Obj.var (encSS s)])) ∧
  okc n0 = true) ∧
  SubL [AVal.ptr (Oid.hp 2) 0, AVal.int IntKind.u8 n0]
  [AVal.ptr (Oid.hp 2) 0, AVal.int IntKind.u8 n0] ∧
  [P0, P1, Obj.var (encSS s)] =
  [p0H [P0, P1, Obj.var (encSS s)], p1H [P0, P1, Obj.var (encSS s)],
  Obj.var (cells0H [P0, P1, Obj.var (encSS s)])]) then
  bif n16 == 0 then
  k
  (Out.ret (AVal.tuple [])
  [p0H [P0, P1, Obj.var (encSS s)], p1H [P0, P1, Obj.var (encSS s)],
  Obj.var (encSS (Ra (cells0H [P0, P1, Obj.var (encSS s)]) n0).s)])
  else
  k
  (Out.panic (errV n16)
  [p0H [P0, P1, Obj.var (encSS s)], p1H [P0, P1, Obj.var (encSS s)],
  Obj.var (encSS (Ra (cells0H [P0, P1, Obj.var (encSS s)]) n0).s)])
  else none
  else
  bif s.k == 10 then
  bif c1 then
  bif n13 == 0 then
  k
  (Out.ret (AVal.tuple [])
  [p0H [P0, P1, Obj.var (encSS s)], p1H [P0, P1, Obj.var (encSS s)],
  Obj.var (encSS (V (cells0H [P0, P1, Obj.var (encSS s)]) n0).s)])
  else
  k
  (Out.panic (errV n13)
  [p0H [P0, P1, Obj.var (encSS s)], p1H [P0, P1, Obj.var (encSS s)],
  Obj.var (encSS (V (cells0H [P0, P1, Obj.var (encSS s)]) n0).s)])
  else none
  else
  bif s.k == 12 then
  bif c1 then
  bif n8 == 0 then
  k
  (Out.ret (AVal.tuple [])
  [p0H [P0, P1, Obj.var (encSS s)], p1H [P0, P1, Obj.var (encSS s)],
  Obj.var (encSS (W (cells0H [P0, P1, Obj.var (encSS s)]) n0).s)])
  else
  k
  (Out.panic (errV n8)
  [p0H [P0, P1, Obj.var (encSS s)], p1H [P0, P1, Obj.var (encSS s)],
  Obj.var (encSS (W (cells0H [P0, P1, Obj.var (encSS s)]) n0).s)])
  else none
  else
  bif c14 then
  bif c14 then
  bif c1 then
  bif n15 == 0 then
  k
  (Out.ret (AVal.tuple [])
  [p0H [P0, P1, Obj.var (encSS s)], p1H [P0, P1, Obj.var (encSS s)],
  Obj.var (encSS (Re (cells0H [P0, P1, Obj.var (encSS s)]) n0).s)])
  else
  k
  (Out.panic (errV n15)
  [p0H [P0, P1, Obj.var (encSS s)], p1H [P0, P1, Obj.var (encSS s)],
  Obj.var (encSS (Re (cells0H [P0, P1, Obj.var (encSS s)]) n0).s)])
  else none
  else
  bif s.k == 15 then
  bif n0 == 62 then
  k
  (Out.ret (AVal.tuple [])
  [P0, P1,
  Obj.var
  [AVal.int IntKind.i64 0, AVal.str [], AVal.str [], AVal.int IntKind.u8 0,
  AVal.str [], AVal.str [], AVal.int IntKind.i64 0, AVal.str []]])
  else k (Out.ret (AVal.tuple []) [P0, P1, Obj.var (encSS s)])
  else
  bif
  tst
  (((OkR (cells0H [P0, P1, Obj.var (encSS s)]) ∧
  okE (cells0H [P0, P1, Obj.var (encSS s)])) ∧
  okc n0 = true) ∧
  SubL [AVal.ptr (Oid.hp 2) 0, AVal.int IntKind.u8 n0]
  [AVal.ptr (Oid.hp 2) 0, AVal.int IntKind.u8 n0] ∧
  [P0, P1, Obj.var (encSS s)] =
  [p0H [P0, P1, Obj.var (encSS s)], p1H [P0, P1, Obj.var (encSS s)],
  Obj.var (cells0H [P0, P1, Obj.var (encSS s)])]) then
  bif n16 == 0 then
  k
  (Out.ret (AVal.tuple [])
  [p0H [P0, P1, Obj.var (encSS s)], p1H [P0, P1, Obj.var (encSS s)],
  Obj.var (encSS (Ra (cells0H [P0, P1, Obj.var (encSS s)]) n0).s)])
  else
  k
  (Out.panic (errV n16)
  [p0H [P0, P1, Obj.var (encSS s)], p1H [P0, P1, Obj.var (encSS s)],
  Obj.var (encSS (Ra (cells0H [P0, P1, Obj.var (encSS s)]) n0).s)])
  else none
  else
  bif c17 then
  bif c17 then
  bif c1 then
  bif n15 == 0 then
  k
  (Out.ret (AVal.tuple [])
  [p0H [P0, P1, Obj.var (encSS s)], p1H [P0, P1, Obj.var (encSS s)],
  Obj.var (encSS (Re (cells0H [P0, P1, Obj.var (encSS s)]) n0).s)])
  else
  k
  (Out.panic (errV n15)
  [p0H [P0, P1, Obj.var (encSS s)], p1H [P0, P1, Obj.var (encSS s)],
  Obj.var (encSS (Re (cells0H [P0, P1, Obj.var (encSS s)]) n0).s)])
  else none
  else
  bif s.k == 15 then
  bif n0 == 62 then
  k
  (Out.ret (AVal.tuple [])
  [P0, P1,
  Obj.var
  [AVal.int IntKind.i64 0, AVal.str [], AVal.str [], AVal.int IntKind.u8 0,
  AVal.str [], AVal.str [], AVal.int IntKind.i64 0, AVal.str []]])
  else k (Out.ret (AVal.tuple []) [P0, P1, Obj.var (encSS s)])
  else
  bif
  tst
  (((OkR (cells0H [P0, P1, Obj.var (encSS s)]) ∧
  okE (cells0H [P0, P1, Obj.var (encSS s)])) ∧
  okc n0 = true) ∧
  SubL [AVal.ptr (Oid.hp 2) 0, AVal.int IntKind.u8 n0]
  [AVal.ptr (Oid.hp 2) 0, AVal.int IntKind.u8 n0] ∧
  [P0, P1, Obj.var (encSS s)] =
  [p0H [P0, P1, Obj.var (encSS s)], p1H [P0, P1, Obj.var (encSS s)],
  Obj.var (cells0H [P0, P1, Obj.var (encSS s)])]) then
  bif n16 == 0 then
  k
  (Out.ret (AVal.tuple [])
  [p0H [P0, P1, Obj.var (encSS s)], p1H [P0, P1, Obj.var (encSS s)],
  Obj.var (encSS (Ra (cells0H [P0, P1, Obj.var (encSS s)]) n0).s)])
  else
  k
  (Out.panic (errV n16)
  [p0H [P0, P1, Obj.var (encSS s)], p1H [P0, P1, Obj.var (encSS s)],
  Obj.var (encSS (Ra (cells0H [P0, P1, Obj.var (encSS s)]) n0).s)])
  else none
  else
  bif s.k == 16 then
  bif c1 then
  bif n15 == 0 then
  k
  (Out.ret (AVal.tuple [])
  [p0H [P0, P1, Obj.var (encSS s)], p1H [P0, P1, Obj.var (encSS s)],
  Obj.var (encSS (Re (cells0H [P0, P1, Obj.var (encSS s)]) n0).s)])
  else
  k
  (Out.panic (errV n15)
  [p0H [P0, P1, Obj.var (encSS s)], p1H [P0, P1, Obj.var (encSS s)],
  Obj.var (encSS (Re (cells0H [P0, P1, Obj.var (encSS s)]) n0).s)])
  else none
  else
  bif s.k == 15 then
  bif n0 == 62 then
  k
  (Out.ret (AVal.tuple [])
  [P0, P1,
  Obj.var
  [AVal.int IntKind.i64 0, AVal.str [], AVal.str [], AVal.int IntKind.u8 0,
  AVal.str [], AVal.str [], AVal.int IntKind.i64 0, AVal.str []]])
  else k (Out.ret (AVal.tuple []) [P0, P1, Obj.var (encSS s)])
  else
  bif
  tst
  (((OkR (cells0H [P0, P1, Obj.var (encSS s)]) ∧
  okE (cells0H [P0, P1, Obj.var (encSS s)])) ∧
  okc n0 = true) ∧
  SubL [AVal.ptr (Oid.hp 2) 0, AVal.int IntKind.u8 n0]
  [AVal.ptr (Oid.hp 2) 0, AVal.int IntKind.u8 n0] ∧
  [P0, P1, Obj.var (encSS s)] =
  [p0H [P0, P1, Obj.var (encSS s)], p1H [P0, P1, Obj.var (encSS s)],
  Obj.var (cells0H [P0, P1, Obj.var (encSS s)])]) then
  bif n16 == 0 then
  k
  (Out.ret (AVal.tuple [])
  [p0H [P0, P1, Obj.var (encSS s)], p1H [P0, P1, Obj.var (encSS s)],
  Obj.var (encSS (Ra (cells0H [P0, P1, Obj.var (encSS s)]) n0).s)])
  else
  k
  (Out.panic (errV n16)
  [p0H [P0, P1, Obj.var (encSS s)], p1H [P0, P1, Obj.var (encSS s)],
  Obj.var (encSS (Ra (cells0H [P0, P1, Obj.var (encSS s)]) n0).s)])
  else none
  else
  bif s.k == 7 then
  bif c1 then
  bif n10 == 0 then
  k
  (Out.ret (AVal.tuple [])
  [p0H [P0, P1, Obj.var (encSS s)], p1H [P0, P1, Obj.var (encSS s)],
  Obj.var (encSS (A (cells0H [P0, P1, Obj.var (encSS s)]) n0).s)])
  else
  k
  (Out.panic (errV n10)
  [p0H [P0, P1, Obj.var (encSS s)], p1H [P0, P1, Obj.var (encSS s)],
  Obj.var (encSS (A (cells0H [P0, P1, Obj.var (encSS s)]) n0).s)])
  else none
  else
  bif s.k == 8 then
  bif c1 then
  bif n11 == 0 then
  k
  (Out.ret (AVal.tuple [])
  [p0H [P0, P1, Obj.var (encSS s)], p1H [P0, P1, Obj.var (encSS s)],
  Obj.var (encSS (Wa (cells0H [P0, P1, Obj.var (encSS s)]) n0).s)])
  else
  k
  (Out.panic (errV n11)
  [p0H [P0, P1, Obj.var (encSS s)], p1H [P0, P1, Obj.var (encSS s)],
  Obj.var (encSS (Wa (cells0H [P0, P1, Obj.var (encSS s)]) n0).s)])
  else none
  else
  bif c12 then
  bif c12 then
  bif c1 then
  bif n13 == 0 then
  k
  (Out.ret (AVal.tuple [])
  [p0H [P0, P1, Obj.var (encSS s)], p1H [P0, P1, Obj.var (encSS s)],
  Obj.var (encSS (V (cells0H [P0, P1, Obj.var (encSS s)]) n0).s)])
  else
  k
  (Out.panic (errV n13)
  [p0H [P0, P1, Obj.var (encSS s)], p1H [P0, P1, Obj.var (encSS s)],
  Obj.var (encSS (V (cells0H [P0, P1, Obj.var (encSS s)]) n0).s)])
  else none
  else
  bif s.k == 12 then
  bif c1 then
  bif n8 == 0 then
  k
  (Out.ret (AVal.tuple [])
  [p0H [P0, P1, Obj.var (encSS s)], p1H [P0, P1, Obj.var (encSS s)],
  Obj.var (encSS (W (cells0H [P0, P1, Obj.var (encSS s)]) n0).s)])
  else
  k
  (Out.panic (errV n8)
  [p0H [P0, P1, Obj.var (encSS s)], p1H [P0, P1, Obj.var (encSS s)],
  Obj.var (encSS (W (cells0H [P0, P1, Obj.var (encSS s)]) n0).s)])
  else none
  else
  bif c14 then
  bif c14 then
  bif c1 then
  bif n15 == 0 then
  k
  (Out.ret (AVal.tuple [])
  [p0H [P0, P1, Obj.var (encSS s)], p1H [P0, P1, Obj.var (encSS s)],
  Obj.var (encSS (Re (cells0H [P0, P1, Obj.var (encSS s)]) n0).s)])
  else
  k
  (Out.panic (errV n15)
  [p0H [P0, P1, Obj.var (encSS s)], p1H [P0, P1, Obj.var (encSS s)],
  Obj.var (encSS (Re (cells0H [P0, P1, Obj.var (encSS s)]) n0).s)])
  else none
  else
  bif s.k == 15 then
  bif n0 == 62 then
  k
  (Out.ret (AVal.tuple [])
  [P0, P1,
  Obj.var
  [AVal.int IntKind.i64 0, AVal.str [], AVal.str [], AVal.int IntKind.u8 0,
  AVal.str [], AVal.str [], AVal.int IntKind.i64 0, AVal.str []]])
  else k (Out.ret (AVal.tuple []) [P0, P1, Obj.var (encSS s)])
  else
  bif
  tst
  (((OkR (cells0H [P0, P1, Obj.var (encSS s)]) ∧
  okE (cells0H [P0, P1, Obj.var (encSS s)])) ∧
  okc n0 = true) ∧
  SubL [AVal.ptr (Oid.hp 2) 0, AVal.int IntKind.u8 n0]
  [AVal.ptr (Oid.hp 2) 0, AVal.int IntKind.u8 n0] ∧
  [P0, P1, Obj.var (encSS s)] =
  [p0H [P0, P1, Obj.var (encSS s)], p1H [P0, P1, Obj.var (encSS s)],
  Obj.var (cells0H [P0, P1, Obj.var (encSS s)])]) then
  bif n16 == 0 then
  k
  (Out.ret (AVal.tuple [])
  [p0H [P0, P1, Obj.var (encSS s)], p1H [P0, P1, Obj.var (encSS s)],
  Obj.var (encSS (Ra (cells0H [P0, P1, Obj.var (encSS s)]) n0).s)])
  else
  k
  (Out.panic (errV n16)
  [p0H [P0, P1, Obj.var (encSS s)], p1H [P0, P1, Obj.var (encSS s)],
  Obj.var (encSS (Ra (cells0H [P0, P1, Obj.var (encSS s)]) n0).s)])
  else none
  else
  bif c17 then
  bif c17 then
  bif c1 then
  bif n15 == 0 then
  k
  (Out.ret (AVal.tuple [])
  [p0H [P0, P1, Obj.var (encSS s)], p1H [P0, P1, Obj.var (encSS s)],
  Obj.var (encSS (Re (cells0H [P0, P1, Obj.var (encSS s)]) n0).s)])
  else
  k
  (Out.panic (errV n15)
  [p0H [P0, P1, Obj.var (encSS s)], p1H [P0, P1, Obj.var (encSS s)],
  Obj.var (encSS (Re (cells0H [P0, P1, Obj.var (encSS s)]) n0).s)])
  else none
  else
  bif s.k == 15 then
  bif n0 == 62 then
  k
  (Out.ret (AVal.tuple [])
  [P0, P1,
  Obj.var
  [AVal.int IntKind.i64 0, AVal.str [], AVal.str [], AVal.int IntKind.u8 0,
  AVal.str [], AVal.str [], AVal.int IntKind.i64 0, AVal.str []]])
  else k (Out.ret (AVal.tuple []) [P0, P1, Obj.var (encSS s)])
  else
  bif
  tst
  (((OkR (cells0H [P0, P1, Obj.var (encSS s)]) ∧
  okE (cells0H [P0, P1, Obj.var (encSS s)])) ∧
  okc n0 = true) ∧
  SubL [AVal.ptr (Oid.hp 2) 0, AVal.int IntKind.u8 n0]
  [AVal.ptr (Oid.hp 2) 0, AVal.int IntKind.u8 n0] ∧
  [P0, P1, Obj.var (encSS s)] =
  [p0H [P0, P1, Obj.var (encSS s)], p1H [P0, P1, Obj.var (encSS s)],
  Obj.var (cells0H [P0, P1, Obj.var (encSS s)])]) then
  bif n16 == 0 then
  k
  (Out.ret (AVal.tuple [])
  [p0H [P0, P1, Obj.var (encSS s)], p1H [P0, P1, Obj.var (encSS s)],
  Obj.var (encSS (Ra (cells0H [P0, P1, Obj.var (encSS s)]) n0).s)])
  else
  k
  (Out.panic (errV n16)
  [p0H [P0, P1, Obj.var (encSS s)], p1H [P0, P1, Obj.var (encSS s)],
  Obj.var (encSS (Ra (cells0H [P0, P1, Obj.var (encSS s)]) n0).s)])
  else none
  else
  bif s.k == 16 then
  bif c1 then
  bif n15 == 0 then
  k
  (Out.ret (AVal.tuple [])
  [p0H [P0, P1, Obj.var (encSS s)], p1H [P0, P1, Obj.var (encSS s)],
  Obj.var (encSS (Re (cells0H [P0, P1, Obj.var (encSS s)]) n0).s)])
  else
  k
  (Out.panic (errV n15)
  [p0H [P0, P1, Obj.var (encSS s)], p1H [P0, P1, Obj.var (encSS s)],
  Obj.var (encSS (Re (cells0H [P0, P1, Obj.var (encSS s)]) n0).s)])
  else none
  else
  bif s.k == 15 then
  bif n0 == 62 then
  k
  (Out.ret (AVal.tuple [])
  [P0, P1,
  Obj.var
  [AVal.int IntKind.i64 0, AVal.str [], AVal.str [], AVal.int IntKind.u8 0,
  AVal.str [], AVal.str [], AVal.int IntKind.i64 0, AVal.str []]])
  else k (Out.ret (AVal.tuple []) [P0, P1, Obj.var (encSS s)])
  else
  bif
  tst
  (((OkR (cells0H [P0, P1, Obj.var (encSS s)]) ∧
  okE (cells0H [P0, P1, Obj.var (encSS s)])) ∧
  okc n0 = true) ∧
  SubL [AVal.ptr (Oid.hp 2) 0, AVal.int IntKind.u8 n0]
  [AVal.ptr (Oid.hp 2) 0, AVal.int IntKind.u8 n0] ∧
  [P0, P1, Obj.var (encSS s)] =
  [p0H [P0, P1, Obj.var (encSS s)], p1H [P0, P1, Obj.var (encSS s)],
  Obj.var (cells0H [P0, P1, Obj.var (encSS s)])]) then
  bif n16 == 0 then
  k
  (Out.ret (AVal.tuple [])
  [p0H [P0, P1, Obj.var (encSS s)], p1H [P0, P1, Obj.var (encSS s)],
  Obj.var (encSS (Ra (cells0H [P0, P1, Obj.var (encSS s)]) n0).s)])
  else
  k
  (Out.panic (errV n16)
  [p0H [P0, P1, Obj.var (encSS s)], p1H [P0, P1, Obj.var (encSS s)],
  Obj.var (encSS (Ra (cells0H [P0, P1, Obj.var (encSS s)]) n0).s)])
  else none
  else
  bif s.k == 10 then
  bif c1 then
  bif n13 == 0 then
  k
  (Out.ret (AVal.tuple [])
  [p0H [P0, P1, Obj.var (encSS s)], p1H [P0, P1, Obj.var (encSS s)],
  Obj.var (encSS (V (cells0H [P0, P1, Obj.var (encSS s)]) n0).s)])
  else
  k
  (Out.panic (errV n13)
  [p0H [P0, P1, Obj.var (encSS s)], p1H [P0, P1, Obj.var (encSS s)],
  Obj.var (encSS (V (cells0H [P0, P1, Obj.var (encSS s)]) n0).s)])
  else none
  else
  bif s.k == 12 then
  bif c1 then
  bif n8 == 0 then
  k
  (Out.ret (AVal.tuple [])
  [p0H [P0, P1, Obj.var (encSS s)], p1H [P0, P1, Obj.var (encSS s)],
  Obj.var (encSS (W (cells0H [P0, P1, Obj.var (encSS s)]) n0).s)])
  else
  k
  (Out.panic (errV n8)
  [p0H [P0, P1, Obj.var (encSS s)], p1H [P0, P1, Obj.var (encSS s)],
  Obj.var (encSS (W (cells0H [P0, P1, Obj.var (encSS s)]) n0).s)])
  else none
  else
  bif c14 then
  bif c14 then
  bif c1 then
  bif n15 == 0 then
  k
  (Out.ret (AVal.tuple [])
  [p0H [P0, P1, Obj.var (encSS s)], p1H [P0, P1, Obj.var (encSS s)],
  Obj.var (encSS (Re (cells0H [P0, P1, Obj.var (encSS s)]) n0).s)])
  else
  k
  (Out.panic (errV n15)
  [p0H [P0, P1, Obj.var (encSS s)], p1H [P0, P1, Obj.var (encSS s)],
  Obj.var (encSS (Re (cells0H [P0, P1, Obj.var (encSS s)]) n0).s)])
  else none
  else
  bif s.k == 15 then
  bif n0 == 62 then
  k
  (Out.ret (AVal.tuple [])
  [P0, P1,
  Obj.var
  [AVal.int IntKind.i64 0, AVal.str [], AVal.str [], AVal.int IntKind.u8 0,
  AVal.str [], AVal.str [], AVal.int IntKind.i64 0, AVal.str []]])
  else k (Out.ret (AVal.tuple []) [P0, P1, Obj.var (encSS s)])
  else
  bif
  tst
  (((OkR (cells0H [P0, P1, Obj.var (encSS s)]) ∧
  okE (cells0H [P0, P1, Obj.var (encSS s)])) ∧
  okc n0 = true) ∧
  SubL [AVal.ptr (Oid.hp 2) 0, AVal.int IntKind.u8 n0]
  [AVal.ptr (Oid.hp 2) 0, AVal.int IntKind.u8 n0] ∧
  [P0, P1, Obj.var (encSS s)] =
  [p0H [P0, P1, Obj.var (encSS s)], p1H [P0, P1, Obj.var (encSS s)],
  Obj.var (cells0H [P0, P1, Obj.var (encSS s)])]) then
  bif n16 == 0 then
  k
  (Out.ret (AVal.tuple [])
  [p0H [P0, P1, Obj.var (encSS s)], p1H [P0, P1, Obj.var (encSS s)],
  Obj.var (encSS (Ra (cells0H [P0, P1, Obj.var (encSS s)]) n0).s)])
  else
  k
  (Out.panic (errV n16)
  [p0H [P0, P1, Obj.var (encSS s)], p1H [P0, P1, Obj.var (encSS s)],
  Obj.var (encSS (Ra (cells0H [P0, P1, Obj.var (encSS s)]) n0).s)])
  else none
  else
  bif c17 then
  bif c17 then
  bif c1 then
  bif n15 == 0 then
  k
  (Out.ret (AVal.tuple [])
  [p0H [P0, P1, Obj.var (encSS s)], p1H [P0, P1, Obj.var (encSS s)],
  Obj.var (encSS (Re (cells0H [P0, P1, Obj.var (encSS s)]) n0).s)])
  else
  k
  (Out.panic (errV n15)
  [p0H [P0, P1, Obj.var (encSS s)], p1H [P0, P1, Obj.var (encSS s)],
  Obj.var (encSS (Re (cells0H [P0, P1, Obj.var (encSS s)]) n0).s)])
  else none
  else
  bif s.k == 15 then
  bif n0 == 62 then
  k
  (Out.ret (AVal.tuple [])
  [P0, P1,
  Obj.var
  [AVal.int IntKind.i64 0, AVal.str [], AVal.str [], AVal.int IntKind.u8 0,
  AVal.str [], AVal.str [], AVal.int IntKind.i64 0, AVal.str []]])
  else k (Out.ret (AVal.tuple []) [P0, P1, Obj.var (encSS s)])
  else
  bif
  tst
  (((OkR (cells0H [P0, P1, Obj.var (encSS s)]) ∧
  okE (cells0H [P0, P1, Obj.var (encSS s)])) ∧
  okc n0 = true) ∧
  SubL [AVal.ptr (Oid.hp 2) 0, AVal.int IntKind.u8 n0]
  [AVal.ptr (Oid.hp 2) 0, AVal.int IntKind.u8 n0] ∧
  [P0, P1, Obj.var (encSS s)] =
  [p0H [P0, P1, Obj.var (encSS s)], p1H [P0, P1, Obj.var (encSS s)],
  Obj.var (cells0H [P0, P1, Obj.var (encSS s)])]) then
  bif n16 == 0 then
  k
  (Out.ret (AVal.tuple [])
  [p0H [P0, P1, Obj.var (encSS s)], p1H [P0, P1, Obj.var (encSS s)],
  Obj.var (encSS (Ra (cells0H [P0, P1, Obj.var (encSS s)]) n0).s)])
  else
  k
  (Out.panic (errV n16)
  [p0H [P0, P1, Obj.var (encSS s)], p1H [P0, P1, Obj.var (encSS s)],
  Obj.var (encSS (Ra (cells0H [P0, P1, Obj.var (encSS s)]) n0).s)])
  else none
  else
  bif s.k == 16 then
  bif c1 then
  bif n15 == 0 then
  k
  (Out.ret (AVal.tuple [])
  [p0H [P0, P1, Obj.var (encSS s)], p1H [P0, P1, Obj.var (encSS s)],
  Obj.var (encSS (Re (cells0H [P0, P1, Obj.var (encSS s)]) n0).s)])
  else
  k
  (Out.panic (errV n15)
  [p0H [P0, P1, Obj.var (encSS s)], p1H [P0, P1, Obj.var (encSS s)],
  Obj.var (encSS (Re (cells0H [P0, P1, Obj.var (encSS s)]) n0).s)])
  else none
  else
  bif s.k == 15 then
  bif n0 == 62 then
  k
  (Out.ret (AVal.tuple [])
  [P0, P1,
  Obj.var
  [AVal.int IntKind.i64 0, AVal.str [], AVal.str [], AVal.int IntKind.u8 0,
  AVal.str [], AVal.str [], AVal.int IntKind.i64 0, AVal.str []]])
  else k (Out.ret (AVal.tuple []) [P0, P1, Obj.var (encSS s)])
  else
  bif
  tst
  (((OkR (cells0H [P0, P1, Obj.var (encSS s)]) ∧
  okE (cells0H [P0, P1, Obj.var (encSS s)])) ∧
  okc n0 = true) ∧
  SubL [AVal.ptr (Oid.hp 2) 0, AVal.int IntKind.u8 n0]
  [AVal.ptr (Oid.hp 2) 0, AVal.int IntKind.u8 n0] ∧
  [P0, P1, Obj.var (encSS s)] =
  [p0H [P0, P1, Obj.var (encSS s)], p1H [P0, P1, Obj.var (encSS s)],
  Obj.var (cells0H [P0, P1, Obj.var (encSS s)])]) then
  bif n16 == 0 then
  k
  (Out.ret (AVal.tuple [])
  [p0H [P0, P1, Obj.var (encSS s)], p1H [P0, P1, Obj.var (encSS s)],
  Obj.var (encSS (Ra (cells0H [P0, P1, Obj.var (encSS s)]) n0).s)])
  else
  k
  (Out.panic (errV n16)
  [p0H [P0, P1, Obj.var (encSS s)], p1H [P0, P1, Obj.var (encSS s)],
  Obj.var (encSS (Ra (cells0H [P0, P1, Obj.var (encSS s)]) n0).s)])
  else none) := by kernel_rfl
end Go.Mu
set_option linter.unusedVariables false
set_option linter.unusedSimpArgs false
set_option maxRecDepth 100000
namespace Go.Mu
open Go Go.Proofs
variable (P0 P1 : Obj)
theorem layS1_ok : (layS1 charX beginX beginEX tagX withinX attrX wantX valX remX rawX).OK Tryz.prog := (((((((((Lay.nil_ok.addF mcChar_ok).addF mcBegin_ok).addF mcBeginE_ok).addF mcTag_ok).addF mcWithin_ok).addF mcAttr_ok).addF mcWant_ok).addF mcVal_ok).addF mcRem_ok).addF mcRaw_ok
theorem mstep_ok (s : SS) (c : UInt8) (h : OkM s) (he : s.el.length ≤ 900) : CallOK Tryz.prog 23 [.ptr (.hp 2) 0, .int .u8 c.toNat] [P0, P1, .var (encSS s)] (scOut P0 P1 (stepS oneP unfM s c)) := layS1_ok.call (fun k => by
  obtain ⟨sk, el, ar, dl, pe, rf, pt, wd⟩ := s
  refine (smstep_fun charX beginX beginEX tagX withinX attrX wantX valX remX rawX _ c P0 P1 k).trans ?_
  by_cases h0 : sk = 0
  · subst h0
    have e60 := ek60 c
    show (bif (c.toNat : Int) == 60 then _ else _) = k (scOut P0 P1 (bif c == 60 then sOk { ss0 with k := 1 } else charS oneP unfM ⟨0, el, ar, dl, pe, rf, pt, wd⟩ c))
    rw [e60]
    cases c == 60 with
    | true => rfl
    | false => exact (call_tail P0 P1 ⟨⟨⟨OkR_enc h, trivial⟩, okc_u8 c⟩, .refl _, rfl⟩ (charX (encSS ⟨0, el, ar, dl, pe, rf, pt, wd⟩) c.toNat) k).trans (congrArg (fun r => k (scOut P0 P1 r)) (charX_enc _ c))
  by_cases h1 : sk = 1
  · subst h1
    exact (call_tail P0 P1 ⟨⟨⟨OkR_enc h, trivial⟩, okc_u8 c⟩, .refl _, rfl⟩ (beginX (encSS ⟨1, el, ar, dl, pe, rf, pt, wd⟩) c.toNat) k).trans (congrArg (fun r => k (scOut P0 P1 r)) (beginX_enc _ c))
  by_cases h2 : sk = 2
  · subst h2
    exact (call_tail P0 P1 ⟨⟨⟨OkR_enc h, trivial⟩, okc_u8 c⟩, .refl _, rfl⟩ (beginEX (encSS ⟨2, el, ar, dl, pe, rf, pt, wd⟩) c.toNat) k).trans (congrArg (fun r => k (scOut P0 P1 r)) (beginEX_enc _ c))
  by_cases h3 : sk = 3
  · subst h3
    exact (call_tail P0 P1 ⟨⟨⟨OkR_enc h, trivial⟩, okc_u8 c⟩, .refl _, rfl⟩ (tagX (encSS ⟨3, el, ar, dl, pe, rf, pt, wd⟩) c.toNat) k).trans (congrArg (fun r => k (scOut P0 P1 r)) (tagX_enc _ c))
  by_cases h4 : sk = 4
  · subst h4
    exact (call_tail P0 P1 ⟨⟨⟨OkR_enc h, trivial⟩, okc_u8 c⟩, .refl _, rfl⟩ (tagX (encSS ⟨4, el, ar, dl, pe, rf, pt, wd⟩) c.toNat) k).trans (congrArg (fun r => k (scOut P0 P1 r)) (tagX_enc _ c))
  by_cases h5 : sk = 5
  · subst h5
    exact (call_tail P0 P1 ⟨⟨⟨OkR_enc h, trivial⟩, okc_u8 c⟩, .refl _, rfl⟩ (withinX (encSS ⟨5, el, ar, dl, pe, rf, pt, wd⟩) c.toNat) k).trans (congrArg (fun r => k (scOut P0 P1 r)) (withinX_enc _ c))
  by_cases h6 : sk = 6
  · subst h6
    exact (call_tail P0 P1 ⟨⟨⟨OkR_enc h, trivial⟩, okc_u8 c⟩, .refl _, rfl⟩ (attrX (encSS ⟨6, el, ar, dl, pe, rf, pt, wd⟩) c.toNat) k).trans (congrArg (fun r => k (scOut P0 P1 r)) (attrX_enc _ c))
  by_cases h7 : sk = 7
  · subst h7
    exact (call_tail P0 P1 ⟨⟨⟨OkR_enc h, trivial⟩, okc_u8 c⟩, .refl _, rfl⟩ (attrX (encSS ⟨7, el, ar, dl, pe, rf, pt, wd⟩) c.toNat) k).trans (congrArg (fun r => k (scOut P0 P1 r)) (attrX_enc _ c))
  by_cases h8 : sk = 8
  · subst h8
    exact (call_tail P0 P1 ⟨⟨⟨OkR_enc h, trivial⟩, okc_u8 c⟩, .refl _, rfl⟩ (wantX (encSS ⟨8, el, ar, dl, pe, rf, pt, wd⟩) c.toNat) k).trans (congrArg (fun r => k (scOut P0 P1 r)) (wantX_enc _ c))
  by_cases h9 : sk = 9
  · subst h9
    exact (call_tail P0 P1 ⟨⟨⟨OkR_enc h, trivial⟩, okc_u8 c⟩, .refl _, rfl⟩ (valX (encSS ⟨9, el, ar, dl, pe, rf, pt, wd⟩) c.toNat) k).trans (congrArg (fun r => k (scOut P0 P1 r)) (valX_enc _ c))
  by_cases h10 : sk = 10
  · subst h10
    exact (call_tail P0 P1 ⟨⟨⟨OkR_enc h, trivial⟩, okc_u8 c⟩, .refl _, rfl⟩ (valX (encSS ⟨10, el, ar, dl, pe, rf, pt, wd⟩) c.toNat) k).trans (congrArg (fun r => k (scOut P0 P1 r)) (valX_enc _ c))
  by_cases h11 : sk = 11
  · subst h11
    exact (call_tail P0 P1 ⟨⟨⟨OkR_enc h, trivial⟩, okc_u8 c⟩, .refl _, rfl⟩ (withinX (encSS ⟨11, el, ar, dl, pe, rf, pt, wd⟩) c.toNat) k).trans (congrArg (fun r => k (scOut P0 P1 r)) (withinX_enc _ c))
  by_cases h12 : sk = 12
  · subst h12
    exact (call_tail P0 P1 ⟨⟨⟨OkR_enc h, trivial⟩, okc_u8 c⟩, .refl _, rfl⟩ (withinX (encSS ⟨12, el, ar, dl, pe, rf, pt, wd⟩) c.toNat) k).trans (congrArg (fun r => k (scOut P0 P1 r)) (withinX_enc _ c))
  by_cases h13 : sk = 13
  · subst h13
    exact (call_tail P0 P1 ⟨⟨⟨OkR_enc h, trivial⟩, okc_u8 c⟩, .refl _, rfl⟩ (remX (encSS ⟨13, el, ar, dl, pe, rf, pt, wd⟩) c.toNat) k).trans (congrArg (fun r => k (scOut P0 P1 r)) (remX_enc _ c))
  by_cases h14 : sk = 14
  · subst h14
    exact (call_tail P0 P1 ⟨⟨⟨OkR_enc h, trivial⟩, okc_u8 c⟩, .refl _, rfl⟩ (remX (encSS ⟨14, el, ar, dl, pe, rf, pt, wd⟩) c.toNat) k).trans (congrArg (fun r => k (scOut P0 P1 r)) (remX_enc _ c))
  by_cases h15 : sk = 15
  · subst h15
    have e62 := ek62 c
    show (bif (c.toNat : Int) == 62 then _ else _) = k (scOut P0 P1 (bif c == 62 then sOk ss0 else sOk ⟨15, el, ar, dl, pe, rf, pt, wd⟩))
    rw [e62]
    cases c == 62 <;> rfl
  by_cases h16 : sk = 16
  · subst h16
    exact (call_tail P0 P1 ⟨⟨⟨OkR_enc h, trivial⟩, okc_u8 c⟩, .refl _, rfl⟩ (remX (encSS ⟨16, el, ar, dl, pe, rf, pt, wd⟩) c.toNat) k).trans (congrArg (fun r => k (scOut P0 P1 r)) (remX_enc _ c))
  have hE : okE (encSS ⟨sk, el, ar, dl, pe, rf, pt, wd⟩) := by unfold okE; rw [decSS_enc]; exact he
  unfold stepS
  simp only [beq_f h0, beq_f h1, beq_f h2, beq_f h3, beq_f h4, beq_f h5, beq_f h6, beq_f h7, beq_f h8, beq_f h9, beq_f h10, beq_f h11, beq_f h12, beq_f h13, beq_f h14, beq_f h15, beq_f h16, cond_false, Bool.or_self]
  exact (call_tail P0 P1 ⟨⟨⟨OkR_enc h, hE⟩, okc_u8 c⟩, .refl _, rfl⟩ (rawX (encSS ⟨sk, el, ar, dl, pe, rf, pt, wd⟩) c.toNat) k).trans (congrArg (fun r => k (scOut P0 P1 r)) (rawX_enc _ c)))
noncomputable def stepX : FC := fun x n => stepS oneP unfM (decSS x) (u8 n)
theorem stepX_enc (s : SS) (c : UInt8) : stepX (encSS s) c.toNat = stepS oneP unfM s c := by unfold stepX; rw [decSS_enc, u8_back]
theorem mcStep_ok : ∀ xs H k out, mcTold okE stepX xs H k = some out → ∃ o, CallOK Tryz.prog 23 xs H o ∧ k o = some out := mcTold_ok (ok := fun s => s.el.length ≤ 900) mstep_ok
/- Step -/
theorem step_ok (s : SS) (c : UInt8) : CallOK Tryz.prog 13 [.agg (encSS s), .int .u8 c.toNat] [] (.ret (.tuple [.agg (encSS (scanStep oneP unfM s c).1), .int .i64 (scanStep oneP unfM s c).2]) []) := stp_of stepX_enc mcStep_ok s c
noncomputable def stepR : List AVal → Int → SS × Int := fun x n => scanStep oneP unfM (decSS x) (u8 n)
theorem stepR_enc (s : SS) (c : UInt8) : stepR (encSS s) c.toNat = scanStep oneP unfM s c := by unfold stepR; rw [decSS_enc, u8_back]
theorem sgTold_ok : ∀ xs H k out, sgTold stepR xs H k = some out → ∃ o, CallOK Tryz.prog 13 xs H o ∧ k o = some out := mkF_ok fun a ha => by
  obtain ⟨x, n⟩ := a
  obtain ⟨h1, h2⟩ := ha
  simp only at h1 h2
  obtain ⟨s, rfl⟩ := isS_get h1
  obtain ⟨c, rfl⟩ := okc_is h2
  refine ⟨_, fun k => rfl, ?_⟩
  show CallOK _ _ _ _ (.ret (.tuple [.agg (encSS (stepR (encSS s) c.toNat).1), .int .i64 (stepR (encSS s) c.toNat).2]) [])
  rw [stepR_enc]
  exact step_ok s c
/- Feed -/
theorem layFm0_ok : (layFm0 markR stepR).OK Tryz.prog := (Lay.nil_ok.addF markTold_ok).addF sgTold_ok
noncomputable def feedR : FdR := fun x t => feedL oneP unfM (decSS x) t
theorem feedR_enc (s : SS) (t : Bs) : feedR (encSS s) t = feedL oneP unfM s t := by unfold feedR; rw [decSS_enc]
theorem fm_rd (R : FdR) (t : Bs) (s : SS) (i : Nat) (hi : i < t.length) (hl : t.length ≤ 1099511627776) (H : Heap) (D : List (FuncId × List AVal)) (k : Kont) :
    lturn Tryz.prog (layFm0 markR stepR) (fmFH R) 5 5 [1,2,4,17,18] [2,4] [1,2,4,5,6] [2,4] (stL 38 [1,2,4,17,18] [.str t, .ptr (.tmp 2) 0, .ptr (.tmp 4) 0, .int .i64 t.length, .int .i64 (i : Nat)] [2,4] [encSS s, encSS ss0] H D) k =
    bif (scanStep oneP unfM s (t.getD i 0)).2 != 0 then k .ret (stL 38 [1,2,4,5,6] [.str t, .ptr (.tmp 2) 0, .ptr (.tmp 4) 0, .int .i64 (i : Nat), .int .i64 (scanStep oneP unfM s (t.getD i 0)).2] [2,4] [encSS (scanStep oneP unfM s (t.getD i 0)).1, encSS ss0] H D)
    else k .normal (stL 38 [1,2,4,17,18] [.str t, .ptr (.tmp 2) 0, .ptr (.tmp 4) 0, .int .i64 t.length, .int .i64 ((i + 1 : Nat) : Int)] [2,4] [encSS (scanStep oneP unfM s (t.getD i 0)).1, encSS ss0] H D) := by
  have key := fm_step markR stepR R t s t.length i H D k
  have e1 : IntKind.i64.wrap ((i : Int) + 1) = ((i + 1 : Nat) : Int) := wrap_add1 (by omega)
  simp only [c0v, cGv, ef0, ef, ssEta, ss0v, stepR_enc, markR_enc, tstS, cond_true, okc_u8, e1, Int.toNat_natCast, dT (show (i : Int) < (t.length : Int) by omega), dT (show (0 : Int) ≤ (i : Int) by omega), Bool.and_self] at key
  exact key.trans ((congrArg (fun c => cond c _ none) (tst_true ⟨⟨isS_enc s, trivial⟩, .refl _, trivial⟩)).trans (cond_true _ _))
theorem scanStep_err {s : SS} {c : UInt8} (h : (scanStep oneP unfM s c).2 ≠ 0) : (scanStep oneP unfM s c).1 = ss0 := by
  unfold scanStep at *
  cases hm : markE s != 0 with
  | true => rfl
  | false =>
    rw [hm] at h
    cases he : (stepS oneP unfM s c).e == 0 with
    | true => rw [he] at h; exact absurd rfl h
    | false => rfl
noncomputable abbrev fmTurn := lturn Tryz.prog (layFm0 markR stepR) (fmFH feedR) 5 5 [1,2,4,17,18] [2,4] [1,2,4,5,6] [2,4]
theorem fm_runs (t : Bs) (hl : t.length ≤ 1099511627776) (H : Heap) : ∀ (m i : Nat) (s : SS), t.length - i ≤ m → i ≤ t.length →
    ((feedL oneP unfM s (t.drop i)).2.2 = 0 → LoopRuns fmTurn 38 [1,2,4,17,18] [2,4] [1,2,4,5,6] [2,4] [.str t, .ptr (.tmp 2) 0, .ptr (.tmp 4) 0, .int .i64 t.length, .int .i64 (i : Nat)] [encSS s, encSS ss0] H (.exit 0) [.str t, .ptr (.tmp 2) 0, .ptr (.tmp 4) 0, .undef, .undef] [encSS (feedL oneP unfM s (t.drop i)).1, encSS ss0] H) ∧
    ((feedL oneP unfM s (t.drop i)).2.2 ≠ 0 → LoopRuns fmTurn 38 [1,2,4,17,18] [2,4] [1,2,4,5,6] [2,4] [.str t, .ptr (.tmp 2) 0, .ptr (.tmp 4) 0, .int .i64 t.length, .int .i64 (i : Nat)] [encSS s, encSS ss0] H .ret [.str t, .ptr (.tmp 2) 0, .ptr (.tmp 4) 0, .int .i64 ((i + (feedL oneP unfM s (t.drop i)).2.1 : Nat) : Int), .int .i64 (feedL oneP unfM s (t.drop i)).2.2] [encSS (feedL oneP unfM s (t.drop i)).1, encSS ss0] H) := by
  intro m
  have fin : ∀ s, LoopRuns fmTurn 38 [1,2,4,17,18] [2,4] [1,2,4,5,6] [2,4] [.str t, .ptr (.tmp 2) 0, .ptr (.tmp 4) 0, .int .i64 t.length, .int .i64 (t.length : Nat)] [encSS s, encSS ss0] H (.exit 0) [.str t, .ptr (.tmp 2) 0, .ptr (.tmp 4) 0, .undef, .undef] [encSS s, encSS ss0] H := fun s =>
    .stop (by simp) (fun D k => by
      have key := fm_step markR stepR feedR t s t.length (t.length : Nat) H D k
      simp only [dF (show ¬ ((t.length : Nat) : Int) < (t.length : Int) by omega), cond_false] at key
      exact key)
  induction m with
  | zero =>
    intro i s hm hi
    have hi : i = t.length := by omega
    subst hi
    rw [List.drop_length]
    exact ⟨fun _ => fin s, fun h => absurd rfl h⟩
  | succ m ih =>
    intro i s hm hi
    by_cases hlt : i < t.length
    · rw [drop_cons_of t i 0 hlt]
      have e2 : feedL oneP unfM s (t.getD i 0 :: t.drop (i + 1)) = bif (scanStep oneP unfM s (t.getD i 0)).2 != 0 then (ss0, 0, (scanStep oneP unfM s (t.getD i 0)).2) else ((feedL oneP unfM (scanStep oneP unfM s (t.getD i 0)).1 (t.drop (i + 1))).1, (feedL oneP unfM (scanStep oneP unfM s (t.getD i 0)).1 (t.drop (i + 1))).2.1 + 1, (feedL oneP unfM (scanStep oneP unfM s (t.getD i 0)).1 (t.drop (i + 1))).2.2) := rfl
      rw [e2]
      have rd := fun D k => fm_rd feedR t s i hlt hl H D k
      cases he : (scanStep oneP unfM s (t.getD i 0)).2 != 0 with
      | true =>
        have hn : (scanStep oneP unfM s (t.getD i 0)).2 ≠ 0 := by simpa using he
        simp only [he, cond_true] at rd ⊢
        rw [scanStep_err hn] at rd
        exact ⟨fun h => absurd h hn, fun _ => .stop (by simp) rd⟩
      | false =>
        simp only [he, cond_false] at rd ⊢
        obtain ⟨g1, g2⟩ := ih (i + 1) (scanStep oneP unfM s (t.getD i 0)).1 (by omega) (by omega)
        refine ⟨fun h => .step rd (g1 h), fun h => .step rd ?_⟩
        have := g2 h
        have en : i + 1 + (feedL oneP unfM (scanStep oneP unfM s (t.getD i 0)).1 (t.drop (i + 1))).2.1 = i + ((feedL oneP unfM (scanStep oneP unfM s (t.getD i 0)).1 (t.drop (i + 1))).2.1 + 1) := by omega
        rw [en] at this
        exact this
    · have hi : i = t.length := by omega
      subst hi
      rw [List.drop_length]
      exact ⟨fun _ => fin s, fun h => absurd rfl h⟩
theorem fmSp_ok : SpOK fmTurn 38 [1,2,4,17,18] [2,4] [1,2,4,5,6] [2,4] (fmSp feedR) := mkL_ok fun a h => by
  obtain ⟨t, x, i, H⟩ := a
  obtain ⟨h1, h2, h3⟩ := h
  simp only at h1 h2 h3
  subst h2
  obtain ⟨s, rfl⟩ := isS_get h1
  obtain ⟨g1, g2⟩ := fm_runs t h3 H t.length 0 s (by omega) (by omega)
  rw [List.drop_zero] at g1 g2
  show ∃ e vs bs H', (∀ k : AExit → List AVal → List (List AVal) → Heap → Ans, cond ((feedR (encSS s) t).2.2 != 0) _ _ = k e vs bs H') ∧ _
  rw [feedR_enc]
  cases he : (feedL oneP unfM s t).2.2 != 0 with
  | true =>
    have hn : (feedL oneP unfM s t).2.2 ≠ 0 := by simpa using he
    have := g2 hn
    rw [Nat.zero_add] at this
    exact ⟨_, _, _, _, fun k => rfl, this⟩
  | false =>
    have hn : (feedL oneP unfM s t).2.2 = 0 := by simpa using he
    exact ⟨_, _, _, _, fun k => rfl, g1 hn⟩
theorem layFm_ok : (layFm markR stepR feedR).OK Tryz.prog := layFm0_ok.loop1 (id := 5) (by kernel_rfl) (by kernel_rfl) (by kernel_rfl) fmSp_ok
theorem feedL_n : ∀ (t : Bs) (s : SS), (feedL oneP unfM s t).2.2 = 0 → (feedL oneP unfM s t).2.1 = t.length
  | [], s, _ => rfl
  | c :: t, s, h => by
    have e : feedL oneP unfM s (c :: t) = bif (scanStep oneP unfM s c).2 != 0 then (ss0, 0, (scanStep oneP unfM s c).2) else ((feedL oneP unfM (scanStep oneP unfM s c).1 t).1, (feedL oneP unfM (scanStep oneP unfM s c).1 t).2.1 + 1, (feedL oneP unfM (scanStep oneP unfM s c).1 t).2.2) := rfl
    rw [e] at h ⊢
    cases he : (scanStep oneP unfM s c).2 != 0 with
    | true => rw [he] at h; have : (scanStep oneP unfM s c).2 = 0 := h; rw [this] at he; exact absurd he (by decide)
    | false =>
      rw [he] at h
      show (feedL oneP unfM (scanStep oneP unfM s c).1 t).2.1 + 1 = _
      rw [feedL_n t _ h]; rfl
theorem feedL_err : ∀ (t : Bs) (s : SS), (feedL oneP unfM s t).2.2 ≠ 0 → (feedL oneP unfM s t).1 = ss0
  | [], s, h => absurd rfl h
  | c :: t, s, h => by
    have e : feedL oneP unfM s (c :: t) = bif (scanStep oneP unfM s c).2 != 0 then (ss0, 0, (scanStep oneP unfM s c).2) else ((feedL oneP unfM (scanStep oneP unfM s c).1 t).1, (feedL oneP unfM (scanStep oneP unfM s c).1 t).2.1 + 1, (feedL oneP unfM (scanStep oneP unfM s c).1 t).2.2) := rfl
    rw [e] at h ⊢
    cases he : (scanStep oneP unfM s c).2 != 0 with
    | true => rfl
    | false =>
      rw [he] at h
      exact feedL_err t _ h
theorem feed_ok (s : SS) (t : Bs) (hl : t.length ≤ 1099511627776) : CallOK Tryz.prog 5 [.agg (encSS s), .str t] [] (.ret (.tuple [.agg (encSS (scanFeed oneP unfM s t).1), .int .i64 ((scanFeed oneP unfM s t).2.1 : Nat), .int .i64 (scanFeed oneP unfM s t).2.2]) []) := by
  refine layFm_ok.callF (G := []) rfl (fun k => ?_)
  have key := fm_fun markR stepR feedR s t k
  simp only [c0v, cGv, ef0, ef, ssEta, ss0v, feedR_enc, markR_enc, tstS, cond_true] at key
  refine key.trans ?_
  unfold scanFeed
  cases hm : markE s != 0 with
  | true => rfl
  | false =>
    simp only [cond_false]
    refine (congrArg (fun c => cond c _ none) (tst_true ⟨⟨isS_enc s, rfl, hl⟩, .refl _, by trivial⟩)).trans ((cond_true _ _).trans ?_)
    cases he : (feedL oneP unfM s t).2.2 != 0 with
    | true =>
      have hn : (feedL oneP unfM s t).2.2 ≠ 0 := by simpa using he
      rw [feedL_err t s hn]
      rfl
    | false =>
      have h0 : (feedL oneP unfM s t).2.2 = 0 := by simpa using he
      have hn := feedL_n t s h0
      rw [h0, hn]
      rfl
noncomputable def sfTold (F : FdR) : FSp := mkF (fun xs H => (cellsG (xs.getD 0 .undef), aS xs 1)) (fun a => isS a.1 ∧ a.2.length ≤ 1099511627776) (fun a => [.agg a.1, .str a.2]) (fun _ => []) (fun a k => k (.ret (.tuple [.agg (encSS (F a.1 a.2).1), .int .i64 ((F a.1 a.2).2.1 : Nat), .int .i64 (F a.1 a.2).2.2]) []))
noncomputable def scanR : FdR := fun x t => scanFeed oneP unfM (decSS x) t
theorem scanR_enc (s : SS) (t : Bs) : scanR (encSS s) t = scanFeed oneP unfM s t := by unfold scanR; rw [decSS_enc]
theorem sfTold_ok : ∀ xs H k out, sfTold scanR xs H k = some out → ∃ o, CallOK Tryz.prog 5 xs H o ∧ k o = some out := mkF_ok fun a ha => by
  obtain ⟨x, t⟩ := a
  obtain ⟨h1, h2⟩ := ha
  simp only at h1 h2
  obtain ⟨s, rfl⟩ := isS_get h1
  refine ⟨_, fun k => rfl, ?_⟩
  show CallOK _ _ _ _ (.ret (.tuple [.agg (encSS (scanR (encSS s) t).1), .int .i64 ((scanR (encSS s) t).2.1 : Nat), .int .i64 (scanR (encSS s) t).2.2]) [])
  rw [scanR_enc]
  exact feed_ok s t h2
end Go.Mu
set_option linter.unusedVariables false
set_option linter.unusedSimpArgs false
set_option maxRecDepth 100000
namespace Go.Mu
open Go Go.Proofs
noncomputable def layIa (K : List AVal → Int) : Lay := Lay.nil.addF 25 (ksTold K)
theorem ina_fun (K : List AVal → Int) (s : SS) (k : Out → Ans) : iFun Tryz.prog ((layIa K).hd Tryz.prog) (layIa K).fhs 0 14 [.agg (encSS s)] [] k = (
 let n0 : Int := (↑(List.length s.el) : Int);
 let c1 : Bool := decide (n0 ≥ 1);
 let n2 : Int :=
  K
  (cellsG
  (AVal.agg
  [AVal.int IntKind.i64 s.k, AVal.str s.el, AVal.str s.ar, AVal.int IntKind.u8 (↑s.dl.toNat : Int), AVal.str s.pe,
  AVal.str s.rf, AVal.int IntKind.i64 s.pt, AVal.str s.wd]));
 let c3 : Bool := s.pt == 0;
 let c4 : Bool := s.pt == 2;
 let c5 : Bool := s.pt == 3;
  bif decide (1 ≤ n0) || !c1 then
  bif bif c1 then List.drop (Int.toNat 0) (List.take (Int.toNat 1) s.el) == [47] else false then
  k
  (Out.ret
  (AVal.tuple
  [AVal.agg
  [AVal.int IntKind.i64 s.k, AVal.str s.el, AVal.str s.ar, AVal.int IntKind.u8 (↑s.dl.toNat : Int),
  AVal.str s.pe, AVal.str s.rf, AVal.int IntKind.i64 s.pt, AVal.str s.wd],
  AVal.int IntKind.i64 0])
  [])
  else
  bif
  tst
  (isS
  (cellsG
  (AVal.agg
  [AVal.int IntKind.i64 s.k, AVal.str s.el, AVal.str s.ar, AVal.int IntKind.u8 (↑s.dl.toNat : Int),
  AVal.str s.pe, AVal.str s.rf, AVal.int IntKind.i64 s.pt, AVal.str s.wd])) ∧
  SubL
  [AVal.agg
  [AVal.int IntKind.i64 s.k, AVal.str s.el, AVal.str s.ar, AVal.int IntKind.u8 (↑s.dl.toNat : Int),
  AVal.str s.pe, AVal.str s.rf, AVal.int IntKind.i64 s.pt, AVal.str s.wd]]
  [AVal.agg
  (cellsG
  (AVal.agg
  [AVal.int IntKind.i64 s.k, AVal.str s.el, AVal.str s.ar,
  AVal.int IntKind.u8 (↑s.dl.toNat : Int), AVal.str s.pe, AVal.str s.rf,
  AVal.int IntKind.i64 s.pt, AVal.str s.wd]))] ∧
  ([] : Heap) = []) then
  bif n2 == 0 then
  k
  (Out.ret
  (AVal.tuple
  [AVal.agg
  [AVal.int IntKind.i64 s.k, AVal.str s.el, AVal.str s.ar, AVal.int IntKind.u8 (↑s.dl.toNat : Int),
  AVal.str s.pe, AVal.str s.rf, AVal.int IntKind.i64 s.pt, AVal.str s.wd],
  AVal.int IntKind.i64 3])
  [])
  else
  bif n2 == 1 then
  bif c3 then
  k
  (Out.ret
  (AVal.tuple
  [AVal.agg
  [AVal.int IntKind.i64 s.k, AVal.str s.el, AVal.str s.ar, AVal.int IntKind.u8 (↑s.dl.toNat : Int),
  AVal.str s.pe, AVal.str s.rf, AVal.int IntKind.i64 4, AVal.str []],
  AVal.int IntKind.i64 4])
  [])
  else
  bif c4 then
  bif c4 then
  bif decide (s.pt > 0) then
  k
  (Out.ret
  (AVal.tuple
  [AVal.agg
  [AVal.int IntKind.i64 s.k, AVal.str s.el, AVal.str s.ar,
  AVal.int IntKind.u8 (↑s.dl.toNat : Int), AVal.str s.pe, AVal.str s.rf,
  AVal.int IntKind.i64 s.pt, AVal.str []],
  AVal.int IntKind.i64 (IntKind.i64.wrap (s.pt + 3))])
  [])
  else
  k
  (Out.ret
  (AVal.tuple
  [AVal.agg
  [AVal.int IntKind.i64 s.k, AVal.str s.el, AVal.str s.ar,
  AVal.int IntKind.u8 (↑s.dl.toNat : Int), AVal.str s.pe, AVal.str s.rf,
  AVal.int IntKind.i64 s.pt, AVal.str []],
  AVal.int IntKind.i64 s.pt])
  [])
  else
  k
  (Out.ret
  (AVal.tuple
  [AVal.agg
  [AVal.int IntKind.i64 s.k, AVal.str s.el, AVal.str s.ar,
  AVal.int IntKind.u8 (↑s.dl.toNat : Int), AVal.str s.pe, AVal.str s.rf,
  AVal.int IntKind.i64 s.pt, AVal.str []],
  AVal.int IntKind.i64 0])
  [])
  else
  bif c5 then
  bif decide (s.pt > 0) then
  k
  (Out.ret
  (AVal.tuple
  [AVal.agg
  [AVal.int IntKind.i64 s.k, AVal.str s.el, AVal.str s.ar,
  AVal.int IntKind.u8 (↑s.dl.toNat : Int), AVal.str s.pe, AVal.str s.rf,
  AVal.int IntKind.i64 s.pt, AVal.str []],
  AVal.int IntKind.i64 (IntKind.i64.wrap (s.pt + 3))])
  [])
  else
  k
  (Out.ret
  (AVal.tuple
  [AVal.agg
  [AVal.int IntKind.i64 s.k, AVal.str s.el, AVal.str s.ar,
  AVal.int IntKind.u8 (↑s.dl.toNat : Int), AVal.str s.pe, AVal.str s.rf,
  AVal.int IntKind.i64 s.pt, AVal.str []],
  AVal.int IntKind.i64 s.pt])
  [])
  else
  k
  (Out.ret
  (AVal.tuple
  [AVal.agg
  [AVal.int IntKind.i64 s.k, AVal.str s.el, AVal.str s.ar,
  AVal.int IntKind.u8 (↑s.dl.toNat : Int), AVal.str s.pe, AVal.str s.rf,
  AVal.int IntKind.i64 s.pt, AVal.str []],
  AVal.int IntKind.i64 0])
  [])
  else
  bif n2 == 2 then
  bif c3 then
  bif c3 then
  k
  (Out.ret
  (AVal.tuple
  [AVal.agg
  [AVal.int IntKind.i64 s.k, AVal.str s.el, AVal.str s.ar,
  AVal.int IntKind.u8 (↑s.dl.toNat : Int), AVal.str s.pe, AVal.str s.rf,
  AVal.int IntKind.i64 1, AVal.str []],
  AVal.int IntKind.i64 9])
  [])
  else
  bif c4 then
  bif c4 then
  k
  (Out.ret
  (AVal.tuple
  [AVal.agg
  [AVal.int IntKind.i64 s.k, AVal.str s.el, AVal.str s.ar,
  AVal.int IntKind.u8 (↑s.dl.toNat : Int), AVal.str s.pe, AVal.str s.rf,
  AVal.int IntKind.i64 s.pt, AVal.str []],
  AVal.int IntKind.i64 10])
  [])
  else
  k
  (Out.ret
  (AVal.tuple
  [AVal.agg
  [AVal.int IntKind.i64 s.k, AVal.str s.el, AVal.str s.ar,
  AVal.int IntKind.u8 (↑s.dl.toNat : Int), AVal.str s.pe, AVal.str s.rf,
  AVal.int IntKind.i64 s.pt, AVal.str []],
  AVal.int IntKind.i64 0])
  [])
  else
  bif c5 then
  k
  (Out.ret
  (AVal.tuple
  [AVal.agg
  [AVal.int IntKind.i64 s.k, AVal.str s.el, AVal.str s.ar,
  AVal.int IntKind.u8 (↑s.dl.toNat : Int), AVal.str s.pe, AVal.str s.rf,
  AVal.int IntKind.i64 s.pt, AVal.str []],
  AVal.int IntKind.i64 10])
  [])
  else
  k
  (Out.ret
  (AVal.tuple
  [AVal.agg
  [AVal.int IntKind.i64 s.k, AVal.str s.el, AVal.str s.ar,
  AVal.int IntKind.u8 (↑s.dl.toNat : Int), AVal.str s.pe, AVal.str s.rf,
  AVal.int IntKind.i64 s.pt, AVal.str []],
  AVal.int IntKind.i64 0])
  [])
  else
  bif s.pt == 1 then
  k
  (Out.ret
  (AVal.tuple
  [AVal.agg
  [AVal.int IntKind.i64 s.k, AVal.str s.el, AVal.str s.ar,
  AVal.int IntKind.u8 (↑s.dl.toNat : Int), AVal.str s.pe, AVal.str s.rf,
  AVal.int IntKind.i64 1, AVal.str []],
  AVal.int IntKind.i64 9])
  [])
  else
  bif c4 then
  bif c4 then
  k
  (Out.ret
  (AVal.tuple
  [AVal.agg
  [AVal.int IntKind.i64 s.k, AVal.str s.el, AVal.str s.ar,
  AVal.int IntKind.u8 (↑s.dl.toNat : Int), AVal.str s.pe, AVal.str s.rf,
  AVal.int IntKind.i64 s.pt, AVal.str []],
  AVal.int IntKind.i64 10])
  [])
  else
  k
  (Out.ret
  (AVal.tuple
  [AVal.agg
  [AVal.int IntKind.i64 s.k, AVal.str s.el, AVal.str s.ar,
  AVal.int IntKind.u8 (↑s.dl.toNat : Int), AVal.str s.pe, AVal.str s.rf,
  AVal.int IntKind.i64 s.pt, AVal.str []],
  AVal.int IntKind.i64 0])
  [])
  else
  bif c5 then
  k
  (Out.ret
  (AVal.tuple
  [AVal.agg
  [AVal.int IntKind.i64 s.k, AVal.str s.el, AVal.str s.ar,
  AVal.int IntKind.u8 (↑s.dl.toNat : Int), AVal.str s.pe, AVal.str s.rf,
  AVal.int IntKind.i64 s.pt, AVal.str []],
  AVal.int IntKind.i64 10])
  [])
  else
  k
  (Out.ret
  (AVal.tuple
  [AVal.agg
  [AVal.int IntKind.i64 s.k, AVal.str s.el, AVal.str s.ar,
  AVal.int IntKind.u8 (↑s.dl.toNat : Int), AVal.str s.pe, AVal.str s.rf,
  AVal.int IntKind.i64 s.pt, AVal.str []],
  AVal.int IntKind.i64 0])
  [])
  else
  bif n2 == 3 then
  bif c3 then
  k
  (Out.ret
  (AVal.tuple
  [AVal.agg
  [AVal.int IntKind.i64 s.k, AVal.str s.el, AVal.str s.ar,
  AVal.int IntKind.u8 (↑s.dl.toNat : Int), AVal.str s.pe, AVal.str s.rf,
  AVal.int IntKind.i64 0, AVal.str [63]],
  AVal.int IntKind.i64 12])
  [])
  else
  k
  (Out.ret
  (AVal.tuple
  [AVal.agg
  [AVal.int IntKind.i64 s.k, AVal.str s.el, AVal.str s.ar,
  AVal.int IntKind.u8 (↑s.dl.toNat : Int), AVal.str s.pe, AVal.str s.rf,
  AVal.int IntKind.i64 s.pt, AVal.str []],
  AVal.int IntKind.i64 0])
  [])
  else
  k
  (Out.ret
  (AVal.tuple
  [AVal.agg
  [AVal.int IntKind.i64 s.k, AVal.str s.el, AVal.str s.ar,
  AVal.int IntKind.u8 (↑s.dl.toNat : Int), AVal.str s.pe, AVal.str s.rf,
  AVal.int IntKind.i64 s.pt, AVal.str s.wd],
  AVal.int IntKind.i64 0])
  [])
  else none
  else none) := by kernel_rfl
theorem inr_fun (s : SS) (k : Out → Ans) : iFun Tryz.prog (Lay.nil.hd Tryz.prog) Lay.nil.fhs 0 15 [.agg (encSS s)] [] k = (
 let c0 : Bool := s.pt == 0;
 let c1 : Bool := s.pt == 2;
  bif s.k == 18 then
  bif c0 then
  k
  (Out.ret
  (AVal.tuple
  [AVal.agg
  [AVal.int IntKind.i64 s.k, AVal.str s.el, AVal.str s.ar, AVal.int IntKind.u8 (↑s.dl.toNat : Int),
  AVal.str s.pe, AVal.str s.rf, AVal.int IntKind.i64 0, AVal.str [63]],
  AVal.int IntKind.i64 11])
  [])
  else
  k
  (Out.ret
  (AVal.tuple
  [AVal.agg
  [AVal.int IntKind.i64 s.k, AVal.str s.el, AVal.str s.ar, AVal.int IntKind.u8 (↑s.dl.toNat : Int),
  AVal.str s.pe, AVal.str s.rf, AVal.int IntKind.i64 s.pt, AVal.str []],
  AVal.int IntKind.i64 0])
  [])
  else
  bif c0 then
  bif c0 then
  k
  (Out.ret
  (AVal.tuple
  [AVal.agg
  [AVal.int IntKind.i64 s.k, AVal.str s.el, AVal.str s.ar, AVal.int IntKind.u8 (↑s.dl.toNat : Int),
  AVal.str s.pe, AVal.str s.rf, AVal.int IntKind.i64 1, AVal.str []],
  AVal.int IntKind.i64 7])
  [])
  else
  bif c1 then
  bif c1 then
  k
  (Out.ret
  (AVal.tuple
  [AVal.agg
  [AVal.int IntKind.i64 s.k, AVal.str s.el, AVal.str s.ar, AVal.int IntKind.u8 (↑s.dl.toNat : Int),
  AVal.str s.pe, AVal.str s.rf, AVal.int IntKind.i64 s.pt, AVal.str []],
  AVal.int IntKind.i64 8])
  [])
  else
  k
  (Out.ret
  (AVal.tuple
  [AVal.agg
  [AVal.int IntKind.i64 s.k, AVal.str s.el, AVal.str s.ar, AVal.int IntKind.u8 (↑s.dl.toNat : Int),
  AVal.str s.pe, AVal.str s.rf, AVal.int IntKind.i64 s.pt, AVal.str []],
  AVal.int IntKind.i64 0])
  [])
  else
  bif s.pt == 3 then
  k
  (Out.ret
  (AVal.tuple
  [AVal.agg
  [AVal.int IntKind.i64 s.k, AVal.str s.el, AVal.str s.ar, AVal.int IntKind.u8 (↑s.dl.toNat : Int),
  AVal.str s.pe, AVal.str s.rf, AVal.int IntKind.i64 s.pt, AVal.str []],
  AVal.int IntKind.i64 8])
  [])
  else
  k
  (Out.ret
  (AVal.tuple
  [AVal.agg
  [AVal.int IntKind.i64 s.k, AVal.str s.el, AVal.str s.ar, AVal.int IntKind.u8 (↑s.dl.toNat : Int),
  AVal.str s.pe, AVal.str s.rf, AVal.int IntKind.i64 s.pt, AVal.str []],
  AVal.int IntKind.i64 0])
  [])
  else
  bif s.pt == 1 then
  k
  (Out.ret
  (AVal.tuple
  [AVal.agg
  [AVal.int IntKind.i64 s.k, AVal.str s.el, AVal.str s.ar, AVal.int IntKind.u8 (↑s.dl.toNat : Int),
  AVal.str s.pe, AVal.str s.rf, AVal.int IntKind.i64 1, AVal.str []],
  AVal.int IntKind.i64 7])
  [])
  else
  bif c1 then
  bif c1 then
  k
  (Out.ret
  (AVal.tuple
  [AVal.agg
  [AVal.int IntKind.i64 s.k, AVal.str s.el, AVal.str s.ar, AVal.int IntKind.u8 (↑s.dl.toNat : Int),
  AVal.str s.pe, AVal.str s.rf, AVal.int IntKind.i64 s.pt, AVal.str []],
  AVal.int IntKind.i64 8])
  [])
  else
  k
  (Out.ret
  (AVal.tuple
  [AVal.agg
  [AVal.int IntKind.i64 s.k, AVal.str s.el, AVal.str s.ar, AVal.int IntKind.u8 (↑s.dl.toNat : Int),
  AVal.str s.pe, AVal.str s.rf, AVal.int IntKind.i64 s.pt, AVal.str []],
  AVal.int IntKind.i64 0])
  [])
  else
  bif s.pt == 3 then
  k
  (Out.ret
  (AVal.tuple
  [AVal.agg
  [AVal.int IntKind.i64 s.k, AVal.str s.el, AVal.str s.ar, AVal.int IntKind.u8 (↑s.dl.toNat : Int),
  AVal.str s.pe, AVal.str s.rf, AVal.int IntKind.i64 s.pt, AVal.str []],
  AVal.int IntKind.i64 8])
  [])
  else
  k
  (Out.ret
  (AVal.tuple
  [AVal.agg
  [AVal.int IntKind.i64 s.k, AVal.str s.el, AVal.str s.ar, AVal.int IntKind.u8 (↑s.dl.toNat : Int),
  AVal.str s.pe, AVal.str s.rf, AVal.int IntKind.i64 s.pt, AVal.str []],
  AVal.int IntKind.i64 0])
                [])) := by kernel_rfl
abbrev HoF := List AVal → SS × Int
noncomputable def hoTold (F : HoF) : FSp := mkF (fun xs H => cellsG (xs.getD 0 .undef)) isS (fun x => [.agg x]) (fun _ => []) (fun x k => k (.ret (.tuple [.agg (encSS (F x).1), .int .i64 (F x).2]) []))
noncomputable def layHo (M : List AVal → Int) (A R : HoF) : Lay := ((Lay.nil.addF 12 (ksTold M)).addF 14 (hoTold A)).addF 15 (hoTold R)
theorem hole_fun (M : List AVal → Int) (A R : HoF) (s : SS) (k : Out → Ans) : iFun Tryz.prog ((layHo M A R).hd Tryz.prog) (layHo M A R).fhs 0 7 [.agg (encSS s)] [] k = (
 let c0 : Bool :=
  tst
  (isS
  (cellsG
  (AVal.agg
  [AVal.int IntKind.i64 s.k, AVal.str s.el, AVal.str s.ar, AVal.int IntKind.u8 (↑s.dl.toNat : Int),
  AVal.str s.pe, AVal.str s.rf, AVal.int IntKind.i64 s.pt, AVal.str s.wd])) ∧
  SubL
  [AVal.agg
  [AVal.int IntKind.i64 s.k, AVal.str s.el, AVal.str s.ar, AVal.int IntKind.u8 (↑s.dl.toNat : Int),
  AVal.str s.pe, AVal.str s.rf, AVal.int IntKind.i64 s.pt, AVal.str s.wd]]
  [AVal.agg
  (cellsG
  (AVal.agg
  [AVal.int IntKind.i64 s.k, AVal.str s.el, AVal.str s.ar, AVal.int IntKind.u8 (↑s.dl.toNat : Int),
  AVal.str s.pe, AVal.str s.rf, AVal.int IntKind.i64 s.pt, AVal.str s.wd]))] ∧
  ([] : Heap) = []);
 let n1 : Int :=
  M
  (cellsG
  (AVal.agg
  [AVal.int IntKind.i64 s.k, AVal.str s.el, AVal.str s.ar, AVal.int IntKind.u8 (↑s.dl.toNat : Int), AVal.str s.pe,
  AVal.str s.rf, AVal.int IntKind.i64 s.pt, AVal.str s.wd]));
 let n2 : Int :=
  (A
  (cellsG
  (AVal.agg
  [AVal.int IntKind.i64 s.k, AVal.str s.el, AVal.str s.ar, AVal.int IntKind.u8 (↑s.dl.toNat : Int),
  AVal.str s.pe, AVal.str s.rf, AVal.int IntKind.i64 s.pt, AVal.str s.wd]))).snd;
 let c3 : Bool := s.k == 18;
 let n4 : Int :=
  (R
  (cellsG
  (AVal.agg
  [AVal.int IntKind.i64 s.k, AVal.str s.el, AVal.str s.ar, AVal.int IntKind.u8 (↑s.dl.toNat : Int),
  AVal.str s.pe, AVal.str s.rf, AVal.int IntKind.i64 s.pt, AVal.str s.wd]))).snd;
  bif c0 then
  bif n1 != 0 then
  k
  (Out.ret
  (AVal.tuple
  [AVal.agg
  [AVal.int IntKind.i64 0, AVal.str [], AVal.str [], AVal.int IntKind.u8 0, AVal.str [], AVal.str [],
  AVal.int IntKind.i64 0, AVal.str []],
  AVal.int IntKind.i64 0, AVal.int IntKind.i64 n1])
  [])
  else
  bif bif s.pe == [] then s.rf == [] else false then
  bif s.k == 0 then
  k
  (Out.ret
  (AVal.tuple
  [AVal.agg
  [AVal.int IntKind.i64 s.k, AVal.str s.el, AVal.str s.ar, AVal.int IntKind.u8 (↑s.dl.toNat : Int),
  AVal.str s.pe, AVal.str s.rf, AVal.int IntKind.i64 s.pt, AVal.str s.wd],
  AVal.int IntKind.i64 1, AVal.int IntKind.i64 0])
  [])
  else
  bif s.k == 17 then
  k
  (Out.ret
  (AVal.tuple
  [AVal.agg
  [AVal.int IntKind.i64 s.k, AVal.str s.el, AVal.str s.ar, AVal.int IntKind.u8 (↑s.dl.toNat : Int),
  AVal.str s.pe, AVal.str s.rf, AVal.int IntKind.i64 s.pt, AVal.str s.wd],
  AVal.int IntKind.i64 2, AVal.int IntKind.i64 0])
  [])
  else
  bif s.k == 9 then
  bif c0 then
  bif n2 == 0 then
  k
  (Out.ret
  (AVal.tuple
  [AVal.agg
  [AVal.int IntKind.i64 0, AVal.str [], AVal.str [], AVal.int IntKind.u8 0, AVal.str [],
  AVal.str [], AVal.int IntKind.i64 0, AVal.str []],
  AVal.int IntKind.i64 0, AVal.int IntKind.i64 91])
  [])
  else
  k
  (Out.ret
  (AVal.tuple
  [AVal.agg
  [AVal.int IntKind.i64
  (A
  (cellsG
  (AVal.agg
  [AVal.int IntKind.i64 s.k, AVal.str s.el, AVal.str s.ar,
  AVal.int IntKind.u8 (↑s.dl.toNat : Int), AVal.str s.pe, AVal.str s.rf,
  AVal.int IntKind.i64 s.pt, AVal.str s.wd]))).fst.k,
  AVal.str
  (A
  (cellsG
  (AVal.agg
  [AVal.int IntKind.i64 s.k, AVal.str s.el, AVal.str s.ar,
  AVal.int IntKind.u8 (↑s.dl.toNat : Int), AVal.str s.pe, AVal.str s.rf,
  AVal.int IntKind.i64 s.pt, AVal.str s.wd]))).fst.el,
  AVal.str
  (A
  (cellsG
  (AVal.agg
  [AVal.int IntKind.i64 s.k, AVal.str s.el, AVal.str s.ar,
  AVal.int IntKind.u8 (↑s.dl.toNat : Int), AVal.str s.pe, AVal.str s.rf,
  AVal.int IntKind.i64 s.pt, AVal.str s.wd]))).fst.ar,
  AVal.int IntKind.u8
  (↑(A
  (cellsG
  (AVal.agg
  [AVal.int IntKind.i64 s.k, AVal.str s.el, AVal.str s.ar,
  AVal.int IntKind.u8 (↑s.dl.toNat : Int), AVal.str s.pe, AVal.str s.rf,
  AVal.int IntKind.i64 s.pt, AVal.str s.wd]))).fst.dl.toNat :
  Int),
  AVal.str
  (A
  (cellsG
  (AVal.agg
  [AVal.int IntKind.i64 s.k, AVal.str s.el, AVal.str s.ar,
  AVal.int IntKind.u8 (↑s.dl.toNat : Int), AVal.str s.pe, AVal.str s.rf,
  AVal.int IntKind.i64 s.pt, AVal.str s.wd]))).fst.pe,
  AVal.str
  (A
  (cellsG
  (AVal.agg
  [AVal.int IntKind.i64 s.k, AVal.str s.el, AVal.str s.ar,
  AVal.int IntKind.u8 (↑s.dl.toNat : Int), AVal.str s.pe, AVal.str s.rf,
  AVal.int IntKind.i64 s.pt, AVal.str s.wd]))).fst.rf,
  AVal.int IntKind.i64
  (A
  (cellsG
  (AVal.agg
  [AVal.int IntKind.i64 s.k, AVal.str s.el, AVal.str s.ar,
  AVal.int IntKind.u8 (↑s.dl.toNat : Int), AVal.str s.pe, AVal.str s.rf,
  AVal.int IntKind.i64 s.pt, AVal.str s.wd]))).fst.pt,
  AVal.str
  (A
  (cellsG
  (AVal.agg
  [AVal.int IntKind.i64 s.k, AVal.str s.el, AVal.str s.ar,
  AVal.int IntKind.u8 (↑s.dl.toNat : Int), AVal.str s.pe, AVal.str s.rf,
  AVal.int IntKind.i64 s.pt, AVal.str s.wd]))).fst.wd],
  AVal.int IntKind.i64 n2, AVal.int IntKind.i64 0])
  [])
  else none
  else
  bif c3 then
  bif c3 then
  bif c0 then
  bif n4 == 0 then
  k
  (Out.ret
  (AVal.tuple
  [AVal.agg
  [AVal.int IntKind.i64 0, AVal.str [], AVal.str [], AVal.int IntKind.u8 0, AVal.str [],
  AVal.str [], AVal.int IntKind.i64 0, AVal.str []],
  AVal.int IntKind.i64 0, AVal.int IntKind.i64 91])
  [])
  else
  k
  (Out.ret
  (AVal.tuple
  [AVal.agg
  [AVal.int IntKind.i64
  (R
  (cellsG
  (AVal.agg
  [AVal.int IntKind.i64 s.k, AVal.str s.el, AVal.str s.ar,
  AVal.int IntKind.u8 (↑s.dl.toNat : Int), AVal.str s.pe, AVal.str s.rf,
  AVal.int IntKind.i64 s.pt, AVal.str s.wd]))).fst.k,
  AVal.str
  (R
  (cellsG
  (AVal.agg
  [AVal.int IntKind.i64 s.k, AVal.str s.el, AVal.str s.ar,
  AVal.int IntKind.u8 (↑s.dl.toNat : Int), AVal.str s.pe, AVal.str s.rf,
  AVal.int IntKind.i64 s.pt, AVal.str s.wd]))).fst.el,
  AVal.str
  (R
  (cellsG
  (AVal.agg
  [AVal.int IntKind.i64 s.k, AVal.str s.el, AVal.str s.ar,
  AVal.int IntKind.u8 (↑s.dl.toNat : Int), AVal.str s.pe, AVal.str s.rf,
  AVal.int IntKind.i64 s.pt, AVal.str s.wd]))).fst.ar,
  AVal.int IntKind.u8
  (↑(R
  (cellsG
  (AVal.agg
  [AVal.int IntKind.i64 s.k, AVal.str s.el, AVal.str s.ar,
  AVal.int IntKind.u8 (↑s.dl.toNat : Int), AVal.str s.pe,
  AVal.str s.rf, AVal.int IntKind.i64 s.pt,
  AVal.str s.wd]))).fst.dl.toNat :
  Int),
  AVal.str
  (R
  (cellsG
  (AVal.agg
  [AVal.int IntKind.i64 s.k, AVal.str s.el, AVal.str s.ar,
  AVal.int IntKind.u8 (↑s.dl.toNat : Int), AVal.str s.pe, AVal.str s.rf,
  AVal.int IntKind.i64 s.pt, AVal.str s.wd]))).fst.pe,
  AVal.str
  (R
  (cellsG
  (AVal.agg
  [AVal.int IntKind.i64 s.k, AVal.str s.el, AVal.str s.ar,
  AVal.int IntKind.u8 (↑s.dl.toNat : Int), AVal.str s.pe, AVal.str s.rf,
  AVal.int IntKind.i64 s.pt, AVal.str s.wd]))).fst.rf,
  AVal.int IntKind.i64
  (R
  (cellsG
  (AVal.agg
  [AVal.int IntKind.i64 s.k, AVal.str s.el, AVal.str s.ar,
  AVal.int IntKind.u8 (↑s.dl.toNat : Int), AVal.str s.pe, AVal.str s.rf,
  AVal.int IntKind.i64 s.pt, AVal.str s.wd]))).fst.pt,
  AVal.str
  (R
  (cellsG
  (AVal.agg
  [AVal.int IntKind.i64 s.k, AVal.str s.el, AVal.str s.ar,
  AVal.int IntKind.u8 (↑s.dl.toNat : Int), AVal.str s.pe, AVal.str s.rf,
  AVal.int IntKind.i64 s.pt, AVal.str s.wd]))).fst.wd],
  AVal.int IntKind.i64 n4, AVal.int IntKind.i64 0])
  [])
  else none
  else
  k
  (Out.ret
  (AVal.tuple
  [AVal.agg
  [AVal.int IntKind.i64 0, AVal.str [], AVal.str [], AVal.int IntKind.u8 0, AVal.str [],
  AVal.str [], AVal.int IntKind.i64 0, AVal.str []],
  AVal.int IntKind.i64 0, AVal.int IntKind.i64 91])
  [])
  else
  bif s.k == 19 then
  bif c0 then
  bif n4 == 0 then
  k
  (Out.ret
  (AVal.tuple
  [AVal.agg
  [AVal.int IntKind.i64 0, AVal.str [], AVal.str [], AVal.int IntKind.u8 0, AVal.str [],
  AVal.str [], AVal.int IntKind.i64 0, AVal.str []],
  AVal.int IntKind.i64 0, AVal.int IntKind.i64 91])
  [])
  else
  k
  (Out.ret
  (AVal.tuple
  [AVal.agg
  [AVal.int IntKind.i64
  (R
  (cellsG
  (AVal.agg
  [AVal.int IntKind.i64 s.k, AVal.str s.el, AVal.str s.ar,
  AVal.int IntKind.u8 (↑s.dl.toNat : Int), AVal.str s.pe, AVal.str s.rf,
  AVal.int IntKind.i64 s.pt, AVal.str s.wd]))).fst.k,
  AVal.str
  (R
  (cellsG
  (AVal.agg
  [AVal.int IntKind.i64 s.k, AVal.str s.el, AVal.str s.ar,
  AVal.int IntKind.u8 (↑s.dl.toNat : Int), AVal.str s.pe, AVal.str s.rf,
  AVal.int IntKind.i64 s.pt, AVal.str s.wd]))).fst.el,
  AVal.str
  (R
  (cellsG
  (AVal.agg
  [AVal.int IntKind.i64 s.k, AVal.str s.el, AVal.str s.ar,
  AVal.int IntKind.u8 (↑s.dl.toNat : Int), AVal.str s.pe, AVal.str s.rf,
  AVal.int IntKind.i64 s.pt, AVal.str s.wd]))).fst.ar,
  AVal.int IntKind.u8
  (↑(R
  (cellsG
  (AVal.agg
  [AVal.int IntKind.i64 s.k, AVal.str s.el, AVal.str s.ar,
  AVal.int IntKind.u8 (↑s.dl.toNat : Int), AVal.str s.pe,
  AVal.str s.rf, AVal.int IntKind.i64 s.pt,
  AVal.str s.wd]))).fst.dl.toNat :
  Int),
  AVal.str
  (R
  (cellsG
  (AVal.agg
  [AVal.int IntKind.i64 s.k, AVal.str s.el, AVal.str s.ar,
  AVal.int IntKind.u8 (↑s.dl.toNat : Int), AVal.str s.pe, AVal.str s.rf,
  AVal.int IntKind.i64 s.pt, AVal.str s.wd]))).fst.pe,
  AVal.str
  (R
  (cellsG
  (AVal.agg
  [AVal.int IntKind.i64 s.k, AVal.str s.el, AVal.str s.ar,
  AVal.int IntKind.u8 (↑s.dl.toNat : Int), AVal.str s.pe, AVal.str s.rf,
  AVal.int IntKind.i64 s.pt, AVal.str s.wd]))).fst.rf,
  AVal.int IntKind.i64
  (R
  (cellsG
  (AVal.agg
  [AVal.int IntKind.i64 s.k, AVal.str s.el, AVal.str s.ar,
  AVal.int IntKind.u8 (↑s.dl.toNat : Int), AVal.str s.pe, AVal.str s.rf,
  AVal.int IntKind.i64 s.pt, AVal.str s.wd]))).fst.pt,
  AVal.str
  (R
  (cellsG
  (AVal.agg
  [AVal.int IntKind.i64 s.k, AVal.str s.el, AVal.str s.ar,
  AVal.int IntKind.u8 (↑s.dl.toNat : Int), AVal.str s.pe, AVal.str s.rf,
  AVal.int IntKind.i64 s.pt, AVal.str s.wd]))).fst.wd],
  AVal.int IntKind.i64 n4, AVal.int IntKind.i64 0])
  [])
  else none
  else
  k
  (Out.ret
  (AVal.tuple
  [AVal.agg
  [AVal.int IntKind.i64 0, AVal.str [], AVal.str [], AVal.int IntKind.u8 0, AVal.str [],
  AVal.str [], AVal.int IntKind.i64 0, AVal.str []],
  AVal.int IntKind.i64 0, AVal.int IntKind.i64 91])
  [])
  else
  k
  (Out.ret
  (AVal.tuple
  [AVal.agg
  [AVal.int IntKind.i64 0, AVal.str [], AVal.str [], AVal.int IntKind.u8 0, AVal.str [], AVal.str [],
  AVal.int IntKind.i64 0, AVal.str []],
  AVal.int IntKind.i64 0, AVal.int IntKind.i64 91])
  [])
  else none) := by kernel_rfl
noncomputable def hlTold (F : List AVal → SS × Int × Int) : FSp := mkF (fun xs H => cellsG (xs.getD 0 .undef)) isS (fun x => [.agg x]) (fun _ => []) (fun x k => k (.ret (.tuple [.agg (encSS (F x).1), .int .i64 (F x).2.1, .int .i64 (F x).2.2]) []))
noncomputable def layAl17 (S : FdR) (F : List AVal → SS × Int × Int) : Lay := (Lay.nil.addF 5 (sfTold S)).addF 7 (hlTold F)
theorem al17_fun (S : FdR) (F : List AVal → SS × Int × Int) (k : Out → Ans) : iFun Tryz.prog ((layAl17 S F).hd Tryz.prog) (layAl17 S F).fhs 0 4 [] [] k = (
 let n0 : Int :=
  (S
  (cellsG
  (AVal.agg
  [AVal.int IntKind.i64 0, AVal.str [], AVal.str [], AVal.int IntKind.u8 0, AVal.str [], AVal.str [],
  AVal.int IntKind.i64 0, AVal.str []]))
  [60, 97, 32, 104, 114, 101, 102, 61, 34]).fst.k;
  bif
  tst
  ((isS
  (cellsG
  (AVal.agg
  [AVal.int IntKind.i64 0, AVal.str [], AVal.str [], AVal.int IntKind.u8 0, AVal.str [], AVal.str [],
  AVal.int IntKind.i64 0, AVal.str []])) ∧
  9 ≤ 1099511627776) ∧
  SubL
  [AVal.agg
  [AVal.int IntKind.i64 0, AVal.str [], AVal.str [], AVal.int IntKind.u8 0, AVal.str [], AVal.str [],
  AVal.int IntKind.i64 0, AVal.str []],
  AVal.str [60, 97, 32, 104, 114, 101, 102, 61, 34]]
  [AVal.agg
  (cellsG
  (AVal.agg
  [AVal.int IntKind.i64 0, AVal.str [], AVal.str [], AVal.int IntKind.u8 0, AVal.str [], AVal.str [],
  AVal.int IntKind.i64 0, AVal.str []])),
  AVal.str [60, 97, 32, 104, 114, 101, 102, 61, 34]] ∧
  ([] : Heap) = []) then
  bif
  tst
  (isS
  (cellsG
  (AVal.agg
  [AVal.int IntKind.i64 n0,
  AVal.str
  (S
  (cellsG
  (AVal.agg
  [AVal.int IntKind.i64 0, AVal.str [], AVal.str [], AVal.int IntKind.u8 0, AVal.str [],
  AVal.str [], AVal.int IntKind.i64 0, AVal.str []]))
  [60, 97, 32, 104, 114, 101, 102, 61, 34]).fst.el,
  AVal.str
  (S
  (cellsG
  (AVal.agg
  [AVal.int IntKind.i64 0, AVal.str [], AVal.str [], AVal.int IntKind.u8 0, AVal.str [],
  AVal.str [], AVal.int IntKind.i64 0, AVal.str []]))
  [60, 97, 32, 104, 114, 101, 102, 61, 34]).fst.ar,
  AVal.int IntKind.u8
  (↑(S
  (cellsG
  (AVal.agg
  [AVal.int IntKind.i64 0, AVal.str [], AVal.str [], AVal.int IntKind.u8 0,
  AVal.str [], AVal.str [], AVal.int IntKind.i64 0, AVal.str []]))
  [60, 97, 32, 104, 114, 101, 102, 61, 34]).fst.dl.toNat :
  Int),
  AVal.str
  (S
  (cellsG
  (AVal.agg
  [AVal.int IntKind.i64 0, AVal.str [], AVal.str [], AVal.int IntKind.u8 0, AVal.str [],
  AVal.str [], AVal.int IntKind.i64 0, AVal.str []]))
  [60, 97, 32, 104, 114, 101, 102, 61, 34]).fst.pe,
  AVal.str
  (S
  (cellsG
  (AVal.agg
  [AVal.int IntKind.i64 0, AVal.str [], AVal.str [], AVal.int IntKind.u8 0, AVal.str [],
  AVal.str [], AVal.int IntKind.i64 0, AVal.str []]))
  [60, 97, 32, 104, 114, 101, 102, 61, 34]).fst.rf,
  AVal.int IntKind.i64
  (S
  (cellsG
  (AVal.agg
  [AVal.int IntKind.i64 0, AVal.str [], AVal.str [], AVal.int IntKind.u8 0, AVal.str [],
  AVal.str [], AVal.int IntKind.i64 0, AVal.str []]))
  [60, 97, 32, 104, 114, 101, 102, 61, 34]).fst.pt,
  AVal.str
  (S
  (cellsG
  (AVal.agg
  [AVal.int IntKind.i64 0, AVal.str [], AVal.str [], AVal.int IntKind.u8 0, AVal.str [],
  AVal.str [], AVal.int IntKind.i64 0, AVal.str []]))
  [60, 97, 32, 104, 114, 101, 102, 61, 34]).fst.wd])) ∧
  SubL
  [AVal.agg
  [AVal.int IntKind.i64 n0,
  AVal.str
  (S
  (cellsG
  (AVal.agg
  [AVal.int IntKind.i64 0, AVal.str [], AVal.str [], AVal.int IntKind.u8 0, AVal.str [],
  AVal.str [], AVal.int IntKind.i64 0, AVal.str []]))
  [60, 97, 32, 104, 114, 101, 102, 61, 34]).fst.el,
  AVal.str
  (S
  (cellsG
  (AVal.agg
  [AVal.int IntKind.i64 0, AVal.str [], AVal.str [], AVal.int IntKind.u8 0, AVal.str [],
  AVal.str [], AVal.int IntKind.i64 0, AVal.str []]))
  [60, 97, 32, 104, 114, 101, 102, 61, 34]).fst.ar,
  AVal.int IntKind.u8
  (↑(S
  (cellsG
  (AVal.agg
  [AVal.int IntKind.i64 0, AVal.str [], AVal.str [], AVal.int IntKind.u8 0,
  AVal.str [], AVal.str [], AVal.int IntKind.i64 0, AVal.str []]))
  [60, 97, 32, 104, 114, 101, 102, 61, 34]).fst.dl.toNat :
  Int),
  AVal.str
  (S
  (cellsG
  (AVal.agg
  [AVal.int IntKind.i64 0, AVal.str [], AVal.str [], AVal.int IntKind.u8 0, AVal.str [],
  AVal.str [], AVal.int IntKind.i64 0, AVal.str []]))
  [60, 97, 32, 104, 114, 101, 102, 61, 34]).fst.pe,
  AVal.str
  (S
  (cellsG
  (AVal.agg
  [AVal.int IntKind.i64 0, AVal.str [], AVal.str [], AVal.int IntKind.u8 0, AVal.str [],
  AVal.str [], AVal.int IntKind.i64 0, AVal.str []]))
  [60, 97, 32, 104, 114, 101, 102, 61, 34]).fst.rf,
  AVal.int IntKind.i64
  (S
  (cellsG
  (AVal.agg
  [AVal.int IntKind.i64 0, AVal.str [], AVal.str [], AVal.int IntKind.u8 0, AVal.str [],
  AVal.str [], AVal.int IntKind.i64 0, AVal.str []]))
  [60, 97, 32, 104, 114, 101, 102, 61, 34]).fst.pt,
  AVal.str
  (S
  (cellsG
  (AVal.agg
  [AVal.int IntKind.i64 0, AVal.str [], AVal.str [], AVal.int IntKind.u8 0, AVal.str [],
  AVal.str [], AVal.int IntKind.i64 0, AVal.str []]))
  [60, 97, 32, 104, 114, 101, 102, 61, 34]).fst.wd]]
  [AVal.agg
  (cellsG
  (AVal.agg
  [AVal.int IntKind.i64 n0,
  AVal.str
  (S
  (cellsG
  (AVal.agg
  [AVal.int IntKind.i64 0, AVal.str [], AVal.str [], AVal.int IntKind.u8 0,
  AVal.str [], AVal.str [], AVal.int IntKind.i64 0, AVal.str []]))
  [60, 97, 32, 104, 114, 101, 102, 61, 34]).fst.el,
  AVal.str
  (S
  (cellsG
  (AVal.agg
  [AVal.int IntKind.i64 0, AVal.str [], AVal.str [], AVal.int IntKind.u8 0,
  AVal.str [], AVal.str [], AVal.int IntKind.i64 0, AVal.str []]))
  [60, 97, 32, 104, 114, 101, 102, 61, 34]).fst.ar,
  AVal.int IntKind.u8
  (↑(S
  (cellsG
  (AVal.agg
  [AVal.int IntKind.i64 0, AVal.str [], AVal.str [], AVal.int IntKind.u8 0,
  AVal.str [], AVal.str [], AVal.int IntKind.i64 0, AVal.str []]))
  [60, 97, 32, 104, 114, 101, 102, 61, 34]).fst.dl.toNat :
  Int),
  AVal.str
  (S
  (cellsG
  (AVal.agg
  [AVal.int IntKind.i64 0, AVal.str [], AVal.str [], AVal.int IntKind.u8 0,
  AVal.str [], AVal.str [], AVal.int IntKind.i64 0, AVal.str []]))
  [60, 97, 32, 104, 114, 101, 102, 61, 34]).fst.pe,
  AVal.str
  (S
  (cellsG
  (AVal.agg
  [AVal.int IntKind.i64 0, AVal.str [], AVal.str [], AVal.int IntKind.u8 0,
  AVal.str [], AVal.str [], AVal.int IntKind.i64 0, AVal.str []]))
  [60, 97, 32, 104, 114, 101, 102, 61, 34]).fst.rf,
  AVal.int IntKind.i64
  (S
  (cellsG
  (AVal.agg
  [AVal.int IntKind.i64 0, AVal.str [], AVal.str [], AVal.int IntKind.u8 0,
  AVal.str [], AVal.str [], AVal.int IntKind.i64 0, AVal.str []]))
  [60, 97, 32, 104, 114, 101, 102, 61, 34]).fst.pt,
  AVal.str
  (S
  (cellsG
  (AVal.agg
  [AVal.int IntKind.i64 0, AVal.str [], AVal.str [], AVal.int IntKind.u8 0,
  AVal.str [], AVal.str [], AVal.int IntKind.i64 0, AVal.str []]))
  [60, 97, 32, 104, 114, 101, 102, 61, 34]).fst.wd]))] ∧
  ([] : Heap) = []) then
  k
  (Out.ret
  (AVal.bool
  (bif
  bif
  bif
  IntKind.i64.wrap
  ((S
  (cellsG
  (AVal.agg
  [AVal.int IntKind.i64 0, AVal.str [], AVal.str [], AVal.int IntKind.u8 0,
  AVal.str [], AVal.str [], AVal.int IntKind.i64 0, AVal.str []]))
  [60, 97, 32, 104, 114, 101, 102, 61, 34]).snd.snd +
  (F
  (cellsG
  (AVal.agg
  [AVal.int IntKind.i64 n0,
  AVal.str
  (S
  (cellsG
  (AVal.agg
  [AVal.int IntKind.i64 0, AVal.str [], AVal.str [],
  AVal.int IntKind.u8 0, AVal.str [], AVal.str [],
  AVal.int IntKind.i64 0, AVal.str []]))
  [60, 97, 32, 104, 114, 101, 102, 61, 34]).fst.el,
  AVal.str
  (S
  (cellsG
  (AVal.agg
  [AVal.int IntKind.i64 0, AVal.str [], AVal.str [],
  AVal.int IntKind.u8 0, AVal.str [], AVal.str [],
  AVal.int IntKind.i64 0, AVal.str []]))
  [60, 97, 32, 104, 114, 101, 102, 61, 34]).fst.ar,
  AVal.int IntKind.u8
  (↑(S
  (cellsG
  (AVal.agg
  [AVal.int IntKind.i64 0, AVal.str [], AVal.str [],
  AVal.int IntKind.u8 0, AVal.str [], AVal.str [],
  AVal.int IntKind.i64 0, AVal.str []]))
  [60, 97, 32, 104, 114, 101, 102, 61, 34]).fst.dl.toNat :
  Int),
  AVal.str
  (S
  (cellsG
  (AVal.agg
  [AVal.int IntKind.i64 0, AVal.str [], AVal.str [],
  AVal.int IntKind.u8 0, AVal.str [], AVal.str [],
  AVal.int IntKind.i64 0, AVal.str []]))
  [60, 97, 32, 104, 114, 101, 102, 61, 34]).fst.pe,
  AVal.str
  (S
  (cellsG
  (AVal.agg
  [AVal.int IntKind.i64 0, AVal.str [], AVal.str [],
  AVal.int IntKind.u8 0, AVal.str [], AVal.str [],
  AVal.int IntKind.i64 0, AVal.str []]))
  [60, 97, 32, 104, 114, 101, 102, 61, 34]).fst.rf,
  AVal.int IntKind.i64
  (S
  (cellsG
  (AVal.agg
  [AVal.int IntKind.i64 0, AVal.str [], AVal.str [],
  AVal.int IntKind.u8 0, AVal.str [], AVal.str [],
  AVal.int IntKind.i64 0, AVal.str []]))
  [60, 97, 32, 104, 114, 101, 102, 61, 34]).fst.pt,
  AVal.str
  (S
  (cellsG
  (AVal.agg
  [AVal.int IntKind.i64 0, AVal.str [], AVal.str [],
  AVal.int IntKind.u8 0, AVal.str [], AVal.str [],
  AVal.int IntKind.i64 0, AVal.str []]))
  [60, 97, 32, 104, 114, 101, 102, 61, 34]).fst.wd]))).snd.snd) ==
  0 then
  (↑(S
  (cellsG
  (AVal.agg
  [AVal.int IntKind.i64 0, AVal.str [], AVal.str [], AVal.int IntKind.u8 0,
  AVal.str [], AVal.str [], AVal.int IntKind.i64 0, AVal.str []]))
  [60, 97, 32, 104, 114, 101, 102, 61, 34]).snd.fst :
  Int) ==
  9
  else false then
  (F
  (cellsG
  (AVal.agg
  [AVal.int IntKind.i64 n0,
  AVal.str
  (S
  (cellsG
  (AVal.agg
  [AVal.int IntKind.i64 0, AVal.str [], AVal.str [], AVal.int IntKind.u8 0,
  AVal.str [], AVal.str [], AVal.int IntKind.i64 0, AVal.str []]))
  [60, 97, 32, 104, 114, 101, 102, 61, 34]).fst.el,
  AVal.str
  (S
  (cellsG
  (AVal.agg
  [AVal.int IntKind.i64 0, AVal.str [], AVal.str [], AVal.int IntKind.u8 0,
  AVal.str [], AVal.str [], AVal.int IntKind.i64 0, AVal.str []]))
  [60, 97, 32, 104, 114, 101, 102, 61, 34]).fst.ar,
  AVal.int IntKind.u8
  (↑(S
  (cellsG
  (AVal.agg
  [AVal.int IntKind.i64 0, AVal.str [], AVal.str [],
  AVal.int IntKind.u8 0, AVal.str [], AVal.str [],
  AVal.int IntKind.i64 0, AVal.str []]))
  [60, 97, 32, 104, 114, 101, 102, 61, 34]).fst.dl.toNat :
  Int),
  AVal.str
  (S
  (cellsG
  (AVal.agg
  [AVal.int IntKind.i64 0, AVal.str [], AVal.str [], AVal.int IntKind.u8 0,
  AVal.str [], AVal.str [], AVal.int IntKind.i64 0, AVal.str []]))
  [60, 97, 32, 104, 114, 101, 102, 61, 34]).fst.pe,
  AVal.str
  (S
  (cellsG
  (AVal.agg
  [AVal.int IntKind.i64 0, AVal.str [], AVal.str [], AVal.int IntKind.u8 0,
  AVal.str [], AVal.str [], AVal.int IntKind.i64 0, AVal.str []]))
  [60, 97, 32, 104, 114, 101, 102, 61, 34]).fst.rf,
  AVal.int IntKind.i64
  (S
  (cellsG
  (AVal.agg
  [AVal.int IntKind.i64 0, AVal.str [], AVal.str [], AVal.int IntKind.u8 0,
  AVal.str [], AVal.str [], AVal.int IntKind.i64 0, AVal.str []]))
  [60, 97, 32, 104, 114, 101, 102, 61, 34]).fst.pt,
  AVal.str
  (S
  (cellsG
  (AVal.agg
  [AVal.int IntKind.i64 0, AVal.str [], AVal.str [], AVal.int IntKind.u8 0,
  AVal.str [], AVal.str [], AVal.int IntKind.i64 0, AVal.str []]))
  [60, 97, 32, 104, 114, 101, 102, 61, 34]).fst.wd]))).snd.fst ==
  4
  else false then
  n0 == 9
  else false))
  [])
  else none
  else none) := by kernel_rfl
end Go.Mu
set_option linter.unusedVariables false
set_option linter.unusedSimpArgs false
set_option maxRecDepth 100000
namespace Go.Mu
open Go Go.Proofs
def alive17Told : FSp := mkFS [] (fun _ => true) (fun _ k => k (.ret (.bool true) []))
theorem hpB_len {x a : Bs} (h : hpB x a = true) : x.length ≤ a.length := by
  unfold hpB at h
  cases hd : decide ((a.length : Int) ≥ (x.length : Int)) with
  | false => rw [hd] at h; cases h
  | true => have := of_decide_eq_true hd; omega
theorem unfM_len (t : Bs) (h : unfM t = true) : t.length ≤ 16 := by
  unfold unfM at h
  cases h38 : hpB [38] t with
  | false => rw [h38] at h; cases h
  | true =>
    rw [h38] at h
    simp only [Bool.not_true, cond_false] at h
    cases hn : unfNames.any (fun w => hpB (t.drop 1) w) with
    | true =>
      obtain ⟨w, hw, hh⟩ := List.any_eq_true.1 hn
      have h1 := hpB_len hh
      rw [List.length_drop] at h1
      have h2 : w.length ≤ 4 := by
        unfold unfNames at hw
        simp only [List.mem_cons, List.not_mem_nil, or_false] at hw
        rcases hw with rfl | rfl | rfl | rfl | rfl <;> decide
      omega
    | false =>
      rw [hn] at h
      simp only [cond_false] at h
      cases hp : (prtM (t.drop 1)).2.2 with
      | false => rw [hp] at h; cases h
      | true =>
        rw [hp] at h
        have h7 : (prtM (t.drop 1)).1.length ≤ 7 := by
          have h : numB (prtM (t.drop 1)).1 (prtM (t.drop 1)).2.1 = true := h
          unfold numB at h
          simp only [Bool.and_eq_true, decide_eq_true_eq] at h
          exact h.2
        have h9 : t.length - 3 ≤ (prtM (t.drop 1)).1.length := by
          unfold prtM
          cases hpB [35] (t.drop 1) with
          | false => show t.length - 3 ≤ (t.drop 1).length; rw [List.length_drop]; omega
          | true =>
            show t.length - 3 ≤ (bif _ then (((t.drop 1).drop 1).drop 1, true, true) else ((t.drop 1).drop 1, false, true) : Bs × Bool × Bool).1.length
            cases (bif !(t.drop 1).drop 1 == [] then orx (((t.drop 1).drop 1).getD 0 0) else false) <;> simp only [cond_true, cond_false, List.length_drop] <;> omega
        omega
theorem scanFeed_inv0 {s : SS} (h : SInv s) (t : Bs) : scanFeed oneP unfM s t = feedL oneP unfM s t := by
  unfold scanFeed
  rw [h.mark]; rfl
noncomputable abbrev scanA (a : Bs) : SS × Nat × Int := scanFeed oneP unfM ss0 a
theorem scanA_inv (a : Bs) : SInv (scanA a).1 := scanFeed_inv unfM_len ss0_inv a
end Go.Mu
set_option linter.unusedVariables false
set_option linter.unusedSimpArgs false
set_option maxRecDepth 100000
namespace Go.Mu
open Go Go.Proofs
theorem layIa_ok : (layIa kindR).OK Tryz.prog := Lay.nil_ok.addF kindTold_ok
theorem ina_ok (s : SS) : CallOK Tryz.prog 14 [.agg (encSS s)] [] (.ret (.tuple [.agg (encSS (inAttrM s).1), .int .i64 (inAttrM s).2]) []) := layIa_ok.callF (G := []) rfl (fun k => by
  have key := ina_fun kindR s k
  have g : (decide (1 ≤ (s.el.length : Int)) || !decide ((s.el.length : Int) ≥ 1)) = true := Bool.or_not_self _
  have eh : (bif decide ((s.el.length : Int) ≥ 1) then List.drop (Int.toNat 0) (List.take (Int.toNat 1) s.el) == [47] else false) = hpB [47] s.el := rfl
  simp only [c0v, cGv, ef0, ef, ssEta, ss0v, kindR_enc, tstS, cond_true, g, eh] at key
  refine key.trans ?_
  clear key g eh
  unfold inAttrM
  cases hpB [47] s.el with
  | true => rfl
  | false =>
    simp only [cond_false]
    generalize kindM s = q
    obtain ⟨sk, el, ar, dl, pe, rf, pt, wd⟩ := s
    by_cases q0 : q = 0
    · subst q0; rfl
    by_cases q1 : q = 1
    · subst q1
      by_cases p0 : pt = 0
      · subst p0; rfl
      by_cases p1 : pt = 1
      · subst p1; rfl
      by_cases p2 : pt = 2
      · subst p2; rfl
      by_cases p3 : pt = 3
      · subst p3; rfl
      unfold urlHole
      simp only [beq_f p0, beq_f p1, beq_f p2, beq_f p3, Bool.or_self, cond_false]
      rfl
    by_cases q2 : q = 2
    · subst q2
      by_cases p0 : pt = 0
      · subst p0; rfl
      by_cases p1 : pt = 1
      · subst p1; rfl
      by_cases p2 : pt = 2
      · subst p2; rfl
      by_cases p3 : pt = 3
      · subst p3; rfl
      unfold jsHole
      simp only [beq_f p0, beq_f p1, beq_f p2, beq_f p3, Bool.or_self, cond_false]
      rfl
    by_cases q3 : q = 3
    · subst q3
      by_cases p0 : pt = 0
      · subst p0; rfl
      by_cases p1 : pt = 1
      · subst p1; rfl
      by_cases p2 : pt = 2
      · subst p2; rfl
      by_cases p3 : pt = 3
      · subst p3; rfl
      simp only [beq_f p0, beq_f p1, beq_f p2, beq_f p3, Bool.or_self, cond_false]
      rfl
    simp only [beq_f q0, beq_f q1, beq_f q2, beq_f q3, cond_false])
noncomputable def inaR : HoF := fun x => inAttrM (decSS x)
theorem inaR_enc (s : SS) : inaR (encSS s) = inAttrM s := by unfold inaR; rw [decSS_enc]
theorem hoTold_ok {f : FuncId} {F : SS → SS × Int} (h : ∀ s, CallOK Tryz.prog f [.agg (encSS s)] [] (.ret (.tuple [.agg (encSS (F s).1), .int .i64 (F s).2]) [])) : ∀ xs H k out, hoTold (fun x => F (decSS x)) xs H k = some out → ∃ o, CallOK Tryz.prog f xs H o ∧ k o = some out := mkF_ok fun x hx => by
  have hx : isS x := hx
  obtain ⟨s, rfl⟩ := isS_get hx
  refine ⟨_, fun k => rfl, ?_⟩
  show CallOK _ _ _ _ (.ret (.tuple [.agg (encSS (F (decSS (encSS s))).1), .int .i64 (F (decSS (encSS s))).2]) [])
  rw [decSS_enc]
  exact h s
theorem inr_ok (s : SS) : CallOK Tryz.prog 15 [.agg (encSS s)] [] (.ret (.tuple [.agg (encSS (inRawM s).1), .int .i64 (inRawM s).2]) []) := Lay.nil_ok.callF (G := []) rfl (fun k => by
  have key := inr_fun s k
  simp only [c0v, cGv, ef0, ef, ssEta, ss0v, tstS, cond_true] at key
  refine key.trans ?_
  clear key
  unfold inRawM
  obtain ⟨sk, el, ar, dl, pe, rf, pt, wd⟩ := s
  by_cases h18 : sk = 18
  · subst h18
    show (bif pt == 0 then _ else _) = k (.ret (.tuple [.agg (encSS (bif pt == 0 then ((⟨18, el, ar, dl, pe, rf, 0, [63]⟩ : SS), (11 : Int)) else (⟨18, el, ar, dl, pe, rf, pt, []⟩, 0)).1), .int .i64 (bif pt == 0 then ((⟨18, el, ar, dl, pe, rf, 0, [63]⟩ : SS), (11 : Int)) else (⟨18, el, ar, dl, pe, rf, pt, []⟩, 0)).2]) [])
    cases pt == 0 <;> rfl
  · simp only [beq_f h18, cond_false]
    by_cases p0 : pt = 0
    · subst p0; rfl
    by_cases p1 : pt = 1
    · subst p1; rfl
    by_cases p2 : pt = 2
    · subst p2; rfl
    by_cases p3 : pt = 3
    · subst p3; rfl
    unfold jsHole
    simp only [beq_f p0, beq_f p1, beq_f p2, beq_f p3, Bool.or_self, cond_false]
    rfl)
noncomputable def inrR : HoF := fun x => inRawM (decSS x)
theorem inrR_enc (s : SS) : inrR (encSS s) = inRawM s := by unfold inrR; rw [decSS_enc]
theorem layHo_ok : (layHo markR inaR inrR).OK Tryz.prog := ((Lay.nil_ok.addF markTold_ok).addF (hoTold_ok ina_ok)).addF (hoTold_ok inr_ok)
theorem hole_ok (s : SS) : CallOK Tryz.prog 7 [.agg (encSS s)] [] (.ret (.tuple [.agg (encSS (holeM s).1), .int .i64 (holeM s).2.1, .int .i64 (holeM s).2.2]) []) := layHo_ok.callF (G := []) rfl (fun k => by
  have key := hole_fun markR inaR inrR s k
  simp only [c0v, cGv, ef0, ef, ssEta, ss0v, markR_enc, inaR_enc, inrR_enc, tstS, cond_true, bif_and] at key
  refine key.trans ?_
  clear key
  unfold holeM holeR
  cases markE s != 0 with
  | true => rfl
  | false =>
    cases s.pe == [] && s.rf == [] with
    | false => rfl
    | true =>
      simp only [cond_true, cond_false]
      generalize inAttrM s = q
      generalize inRawM s = r
      by_cases h0 : s.k = 0
      · rw [h0]; rfl
      by_cases h17 : s.k = 17
      · rw [h17]; rfl
      by_cases h9 : s.k = 9
      · rw [h9]
        show (bif q.2 == 0 then _ else _) = k (.ret (.tuple [.agg (encSS (bif q.2 == 0 then ((ss0, 0, 91) : SS × Int × Int) else (q.1, q.2, 0)).1), .int .i64 (bif q.2 == 0 then ((ss0, 0, 91) : SS × Int × Int) else (q.1, q.2, 0)).2.1, .int .i64 (bif q.2 == 0 then ((ss0, 0, 91) : SS × Int × Int) else (q.1, q.2, 0)).2.2]) [])
        cases q.2 == 0 <;> rfl
      by_cases h18 : s.k = 18
      · rw [h18]
        show (bif r.2 == 0 then _ else _) = k (.ret (.tuple [.agg (encSS (bif r.2 == 0 then ((ss0, 0, 91) : SS × Int × Int) else (r.1, r.2, 0)).1), .int .i64 (bif r.2 == 0 then ((ss0, 0, 91) : SS × Int × Int) else (r.1, r.2, 0)).2.1, .int .i64 (bif r.2 == 0 then ((ss0, 0, 91) : SS × Int × Int) else (r.1, r.2, 0)).2.2]) [])
        cases r.2 == 0 <;> rfl
      by_cases h19 : s.k = 19
      · rw [h19]
        show (bif r.2 == 0 then _ else _) = k (.ret (.tuple [.agg (encSS (bif r.2 == 0 then ((ss0, 0, 91) : SS × Int × Int) else (r.1, r.2, 0)).1), .int .i64 (bif r.2 == 0 then ((ss0, 0, 91) : SS × Int × Int) else (r.1, r.2, 0)).2.1, .int .i64 (bif r.2 == 0 then ((ss0, 0, 91) : SS × Int × Int) else (r.1, r.2, 0)).2.2]) [])
        cases r.2 == 0 <;> rfl
      simp only [beq_f h0, beq_f h17, beq_f h9, beq_f h18, beq_f h19, cond_false, Bool.or_self]
      rfl)
noncomputable def holeX : List AVal → SS × Int × Int := fun x => holeM (decSS x)
theorem holeX_enc (s : SS) : holeX (encSS s) = holeM s := by unfold holeX; rw [decSS_enc]
theorem hlTold_ok : ∀ xs H k out, hlTold holeX xs H k = some out → ∃ o, CallOK Tryz.prog 7 xs H o ∧ k o = some out := mkF_ok fun x hx => by
  have hx : isS x := hx
  obtain ⟨s, rfl⟩ := isS_get hx
  refine ⟨_, fun k => rfl, ?_⟩
  show CallOK _ _ _ _ (.ret (.tuple [.agg (encSS (holeX (encSS s)).1), .int .i64 (holeX (encSS s)).2.1, .int .i64 (holeX (encSS s)).2.2]) [])
  rw [holeX_enc]
  exact hole_ok s
/- alive -/
theorem feed17 : scanFeed oneP unfM ss0 [60, 97, 32, 104, 114, 101, 102, 61, 34] = (⟨9, [97], [104, 114, 101, 102], 34, [], [], 0, []⟩, 9, 0) := by kernel_rfl
theorem hole17 : holeM ⟨9, [97], [104, 114, 101, 102], 34, [], [], 0, []⟩ = (⟨9, [97], [104, 114, 101, 102], 34, [], [], 4, []⟩, 4, 0) := by kernel_rfl
theorem layAl17_ok : (layAl17 scanR holeX).OK Tryz.prog := (Lay.nil_ok.addF sfTold_ok).addF hlTold_ok
theorem alive17_ok : CallOK Tryz.prog 4 [] [] (.ret (.bool true) []) := layAl17_ok.callF (G := []) rfl (fun k => by
  have key := al17_fun scanR holeX k
  simp only [c0v, cGv, ef0, ef, ssEta, ss0v, scanR_enc, holeX_enc, tstS, cond_true] at key
  refine key.trans ?_
  clear key
  refine (congrArg (fun c => cond c _ none) (tst_true ⟨⟨isS_enc ss0, by omega⟩, .refl _, trivial⟩)).trans ((cond_true _ _).trans ?_)
  rw [feed17]
  show k (.ret (.bool (bif bif bif IntKind.i64.wrap ((0 : Int) + (holeM ⟨9, [97], [104, 114, 101, 102], 34, [], [], 0, []⟩).2.2) == 0 then _ else _ then (holeM ⟨9, [97], [104, 114, 101, 102], 34, [], [], 0, []⟩).2.1 == 4 else _ then _ else _)) []) = _
  rw [hole17]
  rfl)
theorem alive17Told_ok : ∀ xs H k out, alive17Told xs H k = some out → ∃ o, CallOK Tryz.prog 4 xs H o ∧ k o = some out := mkFS_ok fun ys xs e h => by
  obtain rfl : xs = [] := e
  exact ⟨_, fun k => rfl, alive17_ok⟩
end Go.Mu
set_option linter.unusedVariables false
set_option linter.unusedSimpArgs false
set_option maxRecDepth 100000
namespace Go.Mu
open Go Go.Proofs
def fTxt (P : Bs → Bs) (n : Nat) : FSp := mkFS [.s] (fun xs => decide ((aS xs 0).length ≤ n)) (fun xs k => k (.ret (.str (P (aS xs 0))) []))
noncomputable def layStr (S : FdR) (F : List AVal → SS × Int × Int) (I E : Bs → Bs) : Lay := ((((Lay.nil.addF 5 (sfTold S)).addF 7 (hlTold F)).addF 4 alive17Told).addF 9 (fTxt I 1048576)).addF 11 (fTxt E 1073741824)
abbrev cS (s : SS) : List AVal := [AVal.int IntKind.i64 s.k, AVal.str s.el, AVal.str s.ar, AVal.int IntKind.u8 (↑s.dl.toNat : Int), AVal.str s.pe, AVal.str s.rf, AVal.int IntKind.i64 s.pt, AVal.str s.wd]
abbrev sA (S : FdR) (a : Bs) : SS × Nat × Int := S (cellsG (AVal.agg [AVal.int IntKind.i64 0, AVal.str [], AVal.str [], AVal.int IntKind.u8 0, AVal.str [], AVal.str [], AVal.int IntKind.i64 0, AVal.str []])) a
abbrev hA (S : FdR) (F : List AVal → SS × Int × Int) (a : Bs) : SS × Int × Int := F (cellsG (AVal.agg (cS (sA S a).fst)))
theorem str17_fun (S : FdR) (F : List AVal → SS × Int × Int) (I E : Bs → Bs) (a s : Bs) (k : Out → Ans) : iFun Tryz.prog ((layStr S F I E).hd Tryz.prog) (layStr S F I E).fhs 0 3 [.str a, .str s] [] k = (
let n0 : Int := (hA S F a).snd.fst;
let c1 : Bool := decide (List.length s ≤ 1048576);
let l2 : List UInt8 := 34 :: (I s ++ [34]);
let c3 : Bool := decide (n0 > 8);
let l4 : List UInt8 := 32 :: 34 :: (I s ++ [34] ++ [32]);
let m5 : Nat := l4.length;
let m6 : Nat := List.length (E l4);
let n7 : Int := (hA S F a).fst.k;
let n8 : Int := (↑(hA S F a).fst.dl.toNat : Int);
let n9 : Int := (hA S F a).fst.pt;
let m10 : Nat := List.length (E (I s));
bif tst ((isS (cellsG (AVal.agg [AVal.int IntKind.i64 0, AVal.str [], AVal.str [], AVal.int IntKind.u8 0, AVal.str [], AVal.str [], AVal.int IntKind.i64 0, AVal.str []])) ∧ List.length a ≤ 1099511627776) ∧ SubL [AVal.agg [AVal.int IntKind.i64 0, AVal.str [], AVal.str [], AVal.int IntKind.u8 0, AVal.str [], AVal.str [], AVal.int IntKind.i64 0, AVal.str []], AVal.str a] [AVal.agg (cellsG (AVal.agg [AVal.int IntKind.i64 0, AVal.str [], AVal.str [], AVal.int IntKind.u8 0, AVal.str [], AVal.str [], AVal.int IntKind.i64 0, AVal.str []])), AVal.str a] ∧ ([] : Heap) = [])
then bif tst (isS (cellsG (AVal.agg (cS (sA S a).fst))) ∧ SubL [AVal.agg (cS (sA S a).fst)] [AVal.agg (cellsG (AVal.agg (cS (sA S a).fst)))] ∧ ([] : Heap) = [])
then bif
bif bif
bif (sA S a).snd.snd != 0
then true
else (hA S F a).snd.snd != 0
then true
else decide (n0 < 7)
then true
else decide (n0 > 10)
then k (Out.ret (AVal.bool true) [])
else bif c1
then bif
bif n0 == 7
then true
else n0 == 9
then bif c1
then bif decide (1 + List.length (I s) ≤ 4611686018427387904)
then bif decide ((34 :: I s).length + 1 ≤ 4611686018427387904)
then bif decide (1 + l2.length ≤ 4611686018427387904)
then bif decide ((32 :: l2).length + 1 ≤ 4611686018427387904)
then bif c3
then bif decide (m5 ≤ 1073741824)
then bif tst ((isS (cellsG (AVal.agg (cS (sA S a).fst))) ∧ m6 ≤ 1099511627776) ∧ SubL [AVal.agg (cS (sA S a).fst), AVal.str (E l4)] [AVal.agg (cellsG (AVal.agg (cS (sA S a).fst))), AVal.str (E l4)] ∧ ([] : Heap) = [])
then k (Out.ret (AVal.bool (bif
bif (S (cellsG (AVal.agg (cS (sA S a).fst))) (E l4)).snd.snd == 0
then (↑(S (cellsG (AVal.agg (cS (sA S a).fst))) (E l4)).snd.fst : Int) == (↑m6 : Int)
else false
then (S (cellsG (AVal.agg (cS (sA S a).fst))) (E l4)).fst.k == n7 && ((S (cellsG (AVal.agg (cS (sA S a).fst))) (E l4)).fst.el == (hA S F a).fst.el && ((S (cellsG (AVal.agg (cS (sA S a).fst))) (E l4)).fst.ar == (hA S F a).fst.ar && ((↑(S (cellsG (AVal.agg (cS (sA S a).fst))) (E l4)).fst.dl.toNat : Int) == n8 && ((S (cellsG (AVal.agg (cS (sA S a).fst))) (E l4)).fst.pe == (hA S F a).fst.pe && ((S (cellsG (AVal.agg (cS (sA S a).fst))) (E l4)).fst.rf == (hA S F a).fst.rf && ((S (cellsG (AVal.agg (cS (sA S a).fst))) (E l4)).fst.pt == n9 && ((S (cellsG (AVal.agg (cS (sA S a).fst))) (E l4)).fst.wd == (hA S F a).fst.wd && true)))))))
else false)) [])
else none
else none
else bif tst ((isS (cellsG (AVal.agg (cS (sA S a).fst))) ∧ m5 ≤ 1099511627776) ∧ SubL [AVal.agg (cS (sA S a).fst), AVal.str l4] [AVal.agg (cellsG (AVal.agg (cS (sA S a).fst))), AVal.str l4] ∧ ([] : Heap) = [])
then k (Out.ret (AVal.bool (bif
bif (S (cellsG (AVal.agg (cS (sA S a).fst))) l4).snd.snd == 0
then (↑(S (cellsG (AVal.agg (cS (sA S a).fst))) l4).snd.fst : Int) == (↑m5 : Int)
else false
then (S (cellsG (AVal.agg (cS (sA S a).fst))) l4).fst.k == n7 && ((S (cellsG (AVal.agg (cS (sA S a).fst))) l4).fst.el == (hA S F a).fst.el && ((S (cellsG (AVal.agg (cS (sA S a).fst))) l4).fst.ar == (hA S F a).fst.ar && ((↑(S (cellsG (AVal.agg (cS (sA S a).fst))) l4).fst.dl.toNat : Int) == n8 && ((S (cellsG (AVal.agg (cS (sA S a).fst))) l4).fst.pe == (hA S F a).fst.pe && ((S (cellsG (AVal.agg (cS (sA S a).fst))) l4).fst.rf == (hA S F a).fst.rf && ((S (cellsG (AVal.agg (cS (sA S a).fst))) l4).fst.pt == n9 && ((S (cellsG (AVal.agg (cS (sA S a).fst))) l4).fst.wd == (hA S F a).fst.wd && true)))))))
else false)) [])
else none
else none
else none
else none
else none
else none
else bif c3
then bif decide (List.length (I s) ≤ 1073741824)
then bif tst ((isS (cellsG (AVal.agg (cS (sA S a).fst))) ∧ m10 ≤ 1099511627776) ∧ SubL [AVal.agg (cS (sA S a).fst), AVal.str (E (I s))] [AVal.agg (cellsG (AVal.agg (cS (sA S a).fst))), AVal.str (E (I s))] ∧ ([] : Heap) = [])
then k (Out.ret (AVal.bool (bif
bif (S (cellsG (AVal.agg (cS (sA S a).fst))) (E (I s))).snd.snd == 0
then (↑(S (cellsG (AVal.agg (cS (sA S a).fst))) (E (I s))).snd.fst : Int) == (↑m10 : Int)
else false
then (S (cellsG (AVal.agg (cS (sA S a).fst))) (E (I s))).fst.k == n7 && ((S (cellsG (AVal.agg (cS (sA S a).fst))) (E (I s))).fst.el == (hA S F a).fst.el && ((S (cellsG (AVal.agg (cS (sA S a).fst))) (E (I s))).fst.ar == (hA S F a).fst.ar && ((↑(S (cellsG (AVal.agg (cS (sA S a).fst))) (E (I s))).fst.dl.toNat : Int) == n8 && ((S (cellsG (AVal.agg (cS (sA S a).fst))) (E (I s))).fst.pe == (hA S F a).fst.pe && ((S (cellsG (AVal.agg (cS (sA S a).fst))) (E (I s))).fst.rf == (hA S F a).fst.rf && ((S (cellsG (AVal.agg (cS (sA S a).fst))) (E (I s))).fst.pt == n9 && ((S (cellsG (AVal.agg (cS (sA S a).fst))) (E (I s))).fst.wd == (hA S F a).fst.wd && true)))))))
else false)) [])
else none
else none
else bif tst ((isS (cellsG (AVal.agg (cS (sA S a).fst))) ∧ List.length (I s) ≤ 1099511627776) ∧ SubL [AVal.agg (cS (sA S a).fst), AVal.str (I s)] [AVal.agg (cellsG (AVal.agg (cS (sA S a).fst))), AVal.str (I s)] ∧ ([] : Heap) = [])
then k (Out.ret (AVal.bool (bif
bif (S (cellsG (AVal.agg (cS (sA S a).fst))) (I s)).snd.snd == 0
then (↑(S (cellsG (AVal.agg (cS (sA S a).fst))) (I s)).snd.fst : Int) == (↑(List.length (I s)) : Int)
else false
then (S (cellsG (AVal.agg (cS (sA S a).fst))) (I s)).fst.k == n7 && ((S (cellsG (AVal.agg (cS (sA S a).fst))) (I s)).fst.el == (hA S F a).fst.el && ((S (cellsG (AVal.agg (cS (sA S a).fst))) (I s)).fst.ar == (hA S F a).fst.ar && ((↑(S (cellsG (AVal.agg (cS (sA S a).fst))) (I s)).fst.dl.toNat : Int) == n8 && ((S (cellsG (AVal.agg (cS (sA S a).fst))) (I s)).fst.pe == (hA S F a).fst.pe && ((S (cellsG (AVal.agg (cS (sA S a).fst))) (I s)).fst.rf == (hA S F a).fst.rf && ((S (cellsG (AVal.agg (cS (sA S a).fst))) (I s)).fst.pt == n9 && ((S (cellsG (AVal.agg (cS (sA S a).fst))) (I s)).fst.wd == (hA S F a).fst.wd && true)))))))
else false)) [])
else none
else none
else none
else none) := by kernel_rfl
end Go.Mu
set_option linter.unusedVariables false
set_option linter.unusedSimpArgs false
set_option maxRecDepth 100000
namespace Go.Mu
open Go Go.Proofs
section
variable {P : Program}
end
structure WdD where
  kind : Int
  text : List UInt8
  at_ : Nat
end Go.Mu
set_option linter.unusedVariables false
set_option linter.unusedSimpArgs false
set_option maxRecDepth 100000
namespace Go.Mu
open Go Go.Proofs
theorem rLetter_fun (n : Int) (k : Out → Ans) : iFun Tryz.prog (Lay.nil.hd Tryz.prog) Lay.nil.fhs 0 30 [.int .u8 n] [] k = (
  k
  (Out.ret
  (AVal.bool
  (bif bif decide (n ≥ 97) then decide (n ≤ 122) else false then true
  else bif decide (n ≥ 65) then decide (n ≤ 90) else false))
      [])) := by kernel_rfl
theorem rDigit_fun (n : Int) (k : Out → Ans) : iFun Tryz.prog (Lay.nil.hd Tryz.prog) Lay.nil.fhs 0 31 [.int .u8 n] [] k = (
  k (Out.ret (AVal.bool (bif decide (n ≥ 48) then decide (n ≤ 57) else false)) [])) := by kernel_rfl
def rLtr (n : Int) : Bool := bif bif decide (n ≥ 97) then decide (n ≤ 122) else false then true else bif decide (n ≥ 65) then decide (n ≤ 90) else false
def rDgt (n : Int) : Bool := bif decide (n ≥ 48) then decide (n ≤ 57) else false
def octTold (p : Int → Bool) : FSp := mkFS [.i .u8] (fun _ => true) (fun xs k => k (.ret (.bool (p (aI xs 0))) []))
theorem octTold_ok {f : FuncId} {p : Int → Bool} (h : ∀ n k, iFun Tryz.prog (Lay.nil.hd Tryz.prog) Lay.nil.fhs 0 f [.int .u8 n] [] k = k (.ret (.bool (p n)) [])) : ∀ xs H k out, octTold p xs H k = some out → ∃ o, CallOK Tryz.prog f xs H o ∧ k o = some out := mkFS_ok fun ys xs e hx => by
  obtain ⟨n, rfl⟩ : ∃ n, xs = [.int .u8 n] := ⟨_, e⟩
  exact ⟨_, fun k => rfl, Lay.nil_ok.callF (G := []) rfl (fun k => h n k)⟩
end Go.Mu
set_option linter.unusedVariables false
set_option linter.unusedSimpArgs false
set_option maxRecDepth 100000
namespace Go.Mu
open Go Go.Proofs
structure b0H where
  x : Bld
end Go.Mu
set_option linter.unusedVariables false
set_option linter.unusedSimpArgs false
set_option maxRecDepth 100000
namespace Go.Mu
open Go Go.Proofs
theorem oneP_eq {s t : List UInt8} {n : Nat} (h : s.length ≤ 1099511627776) (hk : ∀ k, iFun Tryz.prog (layY7.hd Tryz.prog) layY7.fhs 0 46 [.str s] [] k = k (.ret (.tuple [.str t, .int .i64 (n : Nat)]) [])) : oneP s = (t, n) := by
  have h2 := (oneP_is s h).2.2.2
  have h3 := fun k => (h2 k).symm.trans (hk k)
  have h4 := h3 some
  simp only [Option.some.injEq, Out.ret.injEq, AVal.tuple.injEq, List.cons.injEq, AVal.str.injEq, AVal.int.injEq, and_true, true_and] at h4
  rw [← h4.1, ← Int.ofNat.inj h4.2]
end Go.Mu
set_option linter.unusedVariables false
set_option linter.unusedSimpArgs false
set_option maxRecDepth 100000
namespace Go.Mu
open Go Go.Proofs
structure ClA where
  s : List UInt8
  f : Bool
  l : List UInt8
  n : Int
  i : Nat
  H : Heap
end Go.Mu
set_option linter.unusedVariables false
set_option linter.unusedSimpArgs false
set_option maxRecDepth 100000
namespace Go.Proofs
open Go.RowKit Go.Shelf
attribute [local go_sem] Oper.semAt_some
def decC (t : ByteArray) : Int := if (Lib.decodeGo t).1 = 65533 ∧ (Lib.decodeGo t).2 < 2 then -1 else (Lib.decodeGo t).1
def repC (t : ByteArray) : Int := if (Lib.decodeGo t).1 = 0 then 65533 else (Lib.decodeGo t).1
def chF : Nat → ByteArray → List Int
  | 0, _ => []
  | m + 1, t => if t.size = 0 then [] else repC t :: chF m (t.extract (Lib.decodeGo t).2 t.size)
end Go.Proofs
namespace Go.Mu
open Go Go.Proofs Go.RowKit
section
variable {P : Program} {w w' : World} {E : Env} {H : Heap}
def ba (s : List UInt8) : ByteArray := ⟨⟨s⟩⟩
theorem ba_size (s : List UInt8) : (ba s).size = s.length := rfl
end
end Go.Mu
set_option linter.unusedVariables false
set_option linter.unusedSimpArgs false
set_option maxRecDepth 100000
namespace Go.Proofs
open Go.RowKit Go.Shelf
attribute [local go_sem] Oper.semAt_some
end Go.Proofs
set_option linter.unusedVariables false
set_option linter.unusedSimpArgs false
set_option maxRecDepth 100000
namespace Go.Mu
open Go Go.Proofs
theorem wrap8 (x : Int) : IntKind.u8.wrap x = x % 256 := by simp [IntKind.wrap, IntKind.signed, IntKind.bits]
def badR (n : Int) : Bool := decide (n < 0) || decide (n > 1114111) || (decide (55296 ≤ n) && decide (n ≤ 57343))
def encX (n : Int) : List UInt8 := bif badR n then [] else Lib.encodeRune n
def encXE (n : Int) : Int := bif badR n then 4 else 0
end Go.Mu
set_option linter.unusedVariables false
set_option linter.unusedSimpArgs false
set_option maxRecDepth 100000
namespace Go.Mu
open Go Go.Proofs
theorem oct256 {p : UInt8 → Prop} [DecidablePred p] (h : ∀ n : Fin 256, p (UInt8.ofNat n)) (c : UInt8) : p c := by
  have := h ⟨c.toNat, c.toNat_lt⟩
  simpa using this
end Go.Mu
set_option linter.unusedVariables false
set_option linter.unusedSimpArgs false
set_option maxRecDepth 100000
namespace Go.Mu
open Go Go.Proofs
theorem rEn_fun (n : Int) (k : Out → Ans) : iFun Tryz.prog (Lay.nil.hd Tryz.prog) Lay.nil.fhs 0 32 [.int .i64 n] [] k = (
 let c0 : Bool := !(n == n && false);
 let n1 : Int := IntKind.i64.wrap (n.tdiv 64);
 let l2 : List UInt8 := [byteOf [AVal.int IntKind.u8 (IntKind.u8.wrap (IntKind.i64.wrap (128 + n.tmod 64)))]];
 let c3 : Bool := !(n1 == n1 && false);
 let n4 : Int := IntKind.i64.wrap (n.tdiv 4096);
 let l5 : List UInt8 := byteOf [AVal.int IntKind.u8 (IntKind.u8.wrap (IntKind.i64.wrap (128 + n1.tmod 64)))] :: l2;
  bif
  bif bif decide (n < 0) then true else decide (n > 1114111) then true
  else bif decide (n ≥ 55296) then decide (n ≤ 57343) else false then
  k (Out.ret (AVal.tuple [AVal.str [], AVal.int IntKind.i64 4]) [])
  else
  bif decide (n < 128) then
  k (Out.ret (AVal.tuple [AVal.str [byteOf [AVal.int IntKind.u8 (IntKind.u8.wrap n)]], AVal.int IntKind.i64 0]) [])
  else
  bif decide (n < 2048) then
  bif c0 then
  bif c0 then
  k
  (Out.ret
  (AVal.tuple
  [AVal.str (byteOf [AVal.int IntKind.u8 (IntKind.u8.wrap (IntKind.i64.wrap (192 + n1)))] :: l2),
  AVal.int IntKind.i64 0])
  [])
  else none
  else none
  else
  bif decide (n < 65536) then
  bif c0 then
  bif c0 then
  bif c3 then
  bif c0 then
  k
  (Out.ret
  (AVal.tuple
  [AVal.str (byteOf [AVal.int IntKind.u8 (IntKind.u8.wrap (IntKind.i64.wrap (224 + n4)))] :: l5),
  AVal.int IntKind.i64 0])
  [])
  else none
  else none
  else none
  else none
  else
  bif c0 then
  bif c0 then
  bif !(n4 == n4 && false) then
  bif c0 then
  bif c3 then
  bif c0 then
  k
  (Out.ret
  (AVal.tuple
  [AVal.str
  (byteOf
  [AVal.int IntKind.u8
  (IntKind.u8.wrap (IntKind.i64.wrap (240 + IntKind.i64.wrap (n.tdiv 262144))))] ::
  byteOf [AVal.int IntKind.u8 (IntKind.u8.wrap (IntKind.i64.wrap (128 + n4.tmod 64)))] ::
  l5),
  AVal.int IntKind.i64 0])
  [])
  else none
  else none
  else none
  else none
  else none
  else none) := by kernel_rfl
def encrTold (X : Int → List UInt8) (E : Int → Int) : FSp := mkFS [.i .i64] (fun xs => decide (0 ≤ aI xs 0 ∧ aI xs 0 ≤ 2147483647)) (fun xs k => k (.ret (.tuple [.str (X (aI xs 0)), .int .i64 (E (aI xs 0))]) []))
def layRd0 (X : Int → List UInt8) (E : Int → Int) : Lay := Lay.nil.addF 32 (encrTold X E)
theorem rdec_fun (X : Int → List UInt8) (E : Int → Int) (s : List UInt8) (k : Out → Ans) (n0 : Int) (e_n0 : n0 = ((↑s.length : Int)))
  (c1 : Bool) (e_c1 : c1 = (decide (0 < n0)))
  (n2 : Int) (e_n2 : n2 = ((↑(s.getD 0 0).toNat : Int)))
  (n3 : Int) (e_n3 : n3 = (IntKind.i64.wrap (↑(BitVec.ofInt 64 (IntKind.i64.wrap n2) &&& BitVec.ofInt 64 127).toNat : Int)))
  (c4 : Bool) (e_c4 : c4 = (E n3 != 0))
  (c5 : Bool) (e_c5 : c5 = (decide (1 < n0)))
  (n6 : Int) (e_n6 : n6 = ((↑(s.getD 1 0).toNat : Int)))
  (c7 : Bool) (e_c7 : c7 = (decide (n6 < 128)))
  (c8 : Bool) (e_c8 : c8 = (c5 || !!c7))
  (c9 : Bool) (e_c9 : c9 = (bif c7 then true else decide (n6 > 191)))
  (n10 : Int) (e_n10 : n10 = (IntKind.i64.wrap n6))
  (n11 : Int) (e_n11 : n11 = (IntKind.i64.wrap
    (IntKind.i64.wrap
        (IntKind.i64.wrap
            (IntKind.i64.wrap (↑(BitVec.ofInt 64 (IntKind.i64.wrap n2) &&& BitVec.ofInt 64 31).toNat : Int) * 64) +
          n10) -
      128)))
  (c12 : Bool) (e_c12 : c12 = (E n11 != 0))
  (c13 : Bool) (e_c13 : c13 = (decide (2 < n0)))
  (n14 : Int) (e_n14 : n14 = ((↑(s.getD 2 0).toNat : Int)))
  (c15 : Bool) (e_c15 : c15 = (decide (n14 < 128)))
  (c16 : Bool) (e_c16 : c16 = (c13 || !!c15))
  (c17 : Bool) (e_c17 : c17 = (bif c15 then true else decide (n14 > 191)))
  (n18 : Int) (e_n18 : n18 = (IntKind.i64.wrap n14))
  (n19 : Int) (e_n19 : n19 = (IntKind.i64.wrap
    (IntKind.i64.wrap
        (IntKind.i64.wrap
            (IntKind.i64.wrap
                (IntKind.i64.wrap
                    (IntKind.i64.wrap
                        (IntKind.i64.wrap
                            (↑(BitVec.ofInt 64 (IntKind.i64.wrap n2) &&& BitVec.ofInt 64 15).toNat : Int) *
                          64) +
                      n10) -
                  128) *
              64) +
          n18) -
      128)))
  (c20 : Bool) (e_c20 : c20 = (E n19 != 0))
  (c21 : Bool) (e_c21 : c21 = (decide (3 < n0)))
  (n22 : Int) (e_n22 : n22 = ((↑(s.getD 3 0).toNat : Int)))
  (c23 : Bool) (e_c23 : c23 = (decide (n22 < 128)))
  (n24 : Int) (e_n24 : n24 = (IntKind.i64.wrap
    (IntKind.i64.wrap
        (IntKind.i64.wrap
            (IntKind.i64.wrap
                (IntKind.i64.wrap
                    (IntKind.i64.wrap
                        (IntKind.i64.wrap
                            (IntKind.i64.wrap
                                (IntKind.i64.wrap
                                    (IntKind.i64.wrap
                                        (↑(BitVec.ofInt 64 (IntKind.i64.wrap n2) &&& BitVec.ofInt 64 7).toNat : Int) *
                                      64) +
                                  n10) -
                              128) *
                          64) +
                      n18) -
                  128) *
              64) +
          IntKind.i64.wrap n22) -
      128)))
  (c25 : Bool) (e_c25 : c25 = (E n24 != 0)) : iFun Tryz.prog ((layRd0 X E).hd Tryz.prog) (layRd0 X E).fhs 9 29 [.str s] [] k = (
  bif s == [] then k (Out.ret (AVal.tuple [AVal.int IntKind.i64 (-1), AVal.int IntKind.i64 0]) [])
  else
  bif c1 then
  bif decide (n2 < 128) then
  bif decide (1 > n0) then k (Out.ret (AVal.tuple [AVal.int IntKind.i64 (-1), AVal.int IntKind.i64 1]) [])
  else
  bif c1 then
  bif decide (0 ≤ n3 ∧ n3 ≤ 2147483647) then
  bif decide (1 ≤ n0) || !!c4 then
  bif bif c4 then true else !X n3 == List.drop (Int.toNat 0) (List.take (Int.toNat 1) s) then
  k (Out.ret (AVal.tuple [AVal.int IntKind.i64 (-1), AVal.int IntKind.i64 1]) [])
  else k (Out.ret (AVal.tuple [AVal.int IntKind.i64 n3, AVal.int IntKind.i64 1]) [])
  else none
  else none
  else none
  else
  bif bif decide (n2 ≥ 194) then decide (n2 < 224) else false then
  bif decide (2 > n0) then k (Out.ret (AVal.tuple [AVal.int IntKind.i64 (-1), AVal.int IntKind.i64 1]) [])
  else
  bif c1 then
  bif c5 then
  bif c8 then
  bif c9 then k (Out.ret (AVal.tuple [AVal.int IntKind.i64 (-1), AVal.int IntKind.i64 1]) [])
  else
  bif c5 then
  bif decide (0 ≤ n11 ∧ n11 ≤ 2147483647) then
  bif decide (2 ≤ n0) || !!c12 then
  bif bif c12 then true else !X n11 == List.drop (Int.toNat 0) (List.take (Int.toNat 2) s) then
  k (Out.ret (AVal.tuple [AVal.int IntKind.i64 (-1), AVal.int IntKind.i64 1]) [])
  else k (Out.ret (AVal.tuple [AVal.int IntKind.i64 n11, AVal.int IntKind.i64 2]) [])
  else none
  else none
  else none
  else none
  else none
  else none
  else
  bif bif decide (n2 ≥ 224) then decide (n2 < 240) else false then
  bif decide (3 > n0) then k (Out.ret (AVal.tuple [AVal.int IntKind.i64 (-1), AVal.int IntKind.i64 1]) [])
  else
  bif c1 then
  bif c5 then
  bif c8 then
  bif c9 then k (Out.ret (AVal.tuple [AVal.int IntKind.i64 (-1), AVal.int IntKind.i64 1]) [])
  else
  bif c5 then
  bif c13 then
  bif c16 then
  bif c17 then k (Out.ret (AVal.tuple [AVal.int IntKind.i64 (-1), AVal.int IntKind.i64 1]) [])
  else
  bif c13 then
  bif decide (0 ≤ n19 ∧ n19 ≤ 2147483647) then
  bif decide (3 ≤ n0) || !!c20 then
  bif
  bif c20 then true
  else !X n19 == List.drop (Int.toNat 0) (List.take (Int.toNat 3) s) then
  k (Out.ret (AVal.tuple [AVal.int IntKind.i64 (-1), AVal.int IntKind.i64 1]) [])
  else k (Out.ret (AVal.tuple [AVal.int IntKind.i64 n19, AVal.int IntKind.i64 3]) [])
  else none
  else none
  else none
  else none
  else none
  else none
  else none
  else none
  else none
  else
  bif bif decide (n2 ≥ 240) then decide (n2 < 245) else false then
  bif decide (4 > n0) then k (Out.ret (AVal.tuple [AVal.int IntKind.i64 (-1), AVal.int IntKind.i64 1]) [])
  else
  bif c1 then
  bif c5 then
  bif c8 then
  bif c9 then k (Out.ret (AVal.tuple [AVal.int IntKind.i64 (-1), AVal.int IntKind.i64 1]) [])
  else
  bif c5 then
  bif c13 then
  bif c16 then
  bif c17 then k (Out.ret (AVal.tuple [AVal.int IntKind.i64 (-1), AVal.int IntKind.i64 1]) [])
  else
  bif c13 then
  bif c21 then
  bif c21 || !!c23 then
  bif bif c23 then true else decide (n22 > 191) then
  k (Out.ret (AVal.tuple [AVal.int IntKind.i64 (-1), AVal.int IntKind.i64 1]) [])
  else
  bif c21 then
  bif decide (0 ≤ n24 ∧ n24 ≤ 2147483647) then
  bif decide (4 ≤ n0) || !!c25 then
  bif
  bif c25 then true
  else !X n24 == List.drop (Int.toNat 0) (List.take (Int.toNat 4) s) then
  k
  (Out.ret
  (AVal.tuple [AVal.int IntKind.i64 (-1), AVal.int IntKind.i64 1]) [])
  else
  k
  (Out.ret (AVal.tuple [AVal.int IntKind.i64 n24, AVal.int IntKind.i64 4])
  [])
  else none
  else none
  else none
  else none
  else none
  else none
  else none
  else none
  else none
  else none
  else none
  else none
  else k (Out.ret (AVal.tuple [AVal.int IntKind.i64 (-1), AVal.int IntKind.i64 1]) [])
  else none) := by
  subst e_n0 e_c1 e_n2 e_n3 e_c4 e_c5 e_n6 e_c7 e_c8 e_c9 e_n10 e_n11 e_c12 e_c13 e_n14 e_c15 e_c16 e_c17 e_n18 e_n19 e_c20 e_c21 e_n22 e_c23 e_n24 e_c25
  kernel_rfl
end Go.Mu
set_option linter.unusedVariables false
set_option linter.unusedSimpArgs false
set_option maxRecDepth 100000
namespace Go.Mu
open Go Go.Proofs
theorem bo8' {x : Int} (h1 : 0 ≤ x) (h2 : x < 256) : byteOf [AVal.int IntKind.u8 (IntKind.u8.wrap (IntKind.i64.wrap x))] = x.toNat.toUInt8 := by
  rw [wrap_of (by omega) (by omega), wrap8, show x % 256 = x by omega]
  rfl
theorem rEn_exact (n : Int) (h0 : 0 ≤ n) (h : n ≤ 2147483647) (k : Out → Ans) : iFun Tryz.prog (Lay.nil.hd Tryz.prog) Lay.nil.fhs 0 32 [.int .i64 n] [] k = k (.ret (.tuple [.str (encX n), .int .i64 (encXE n)]) []) := by
  refine (rEn_fun n k).trans ?_
  have f1 : IntKind.i64.wrap (n.tdiv 64) = n / 64 := by rw [Int.tdiv_eq_ediv_of_nonneg h0, wrap_of (by omega) (by omega)]
  have f2 : IntKind.i64.wrap (n.tdiv 4096) = n / 4096 := by rw [Int.tdiv_eq_ediv_of_nonneg h0, wrap_of (by omega) (by omega)]
  have f3 : IntKind.i64.wrap (n.tdiv 262144) = n / 262144 := by rw [Int.tdiv_eq_ediv_of_nonneg h0, wrap_of (by omega) (by omega)]
  have m1 : n.tmod 64 = n % 64 := Int.tmod_eq_emod_of_nonneg h0
  have m2 : (n / 64).tmod 64 = n / 64 % 64 := Int.tmod_eq_emod_of_nonneg (by omega)
  have m3 : (n / 4096).tmod 64 = n / 4096 % 64 := Int.tmod_eq_emod_of_nonneg (by omega)
  simp only [f1, f2, f3, m1, m2, m3, Bool.and_false, Bool.not_false, cond_true]
  unfold encX encXE badR
  by_cases hb : n > 1114111
  · simp (disch := omega) only [dT, dF, cond_true, cond_false, Bool.or_true, Bool.true_or, Bool.false_or, Bool.or_false]
  by_cases hs : 55296 ≤ n ∧ n ≤ 57343
  · obtain ⟨hs1, hs2⟩ := hs
    simp (disch := omega) only [dT, dF, cond_true, cond_false, Bool.or_true, Bool.true_or, Bool.false_or, Bool.or_false, Bool.and_self]
  have hsb : (decide (55296 ≤ n) && decide (n ≤ 57343)) = false := by
    by_cases h1 : 55296 ≤ n
    · rw [dF (show ¬ n ≤ 57343 by omega), Bool.and_false]
    · rw [dF h1, Bool.false_and]
  have hsc : (bif decide (n ≥ 55296) then decide (n ≤ 57343) else false) = false := by rw [bif_and]; exact hsb
  rw [hsb, hsc, dF (show ¬ n < 0 by omega), dF hb]
  simp only [cond_false, Bool.or_self]
  have fin : ∀ (t : List UInt8), t = Lib.encodeRune n → k (Out.ret (AVal.tuple [AVal.str t, AVal.int IntKind.i64 0]) []) = k (Out.ret (AVal.tuple [AVal.str (Lib.encodeRune n), AVal.int IntKind.i64 0]) []) := fun t e => by rw [e]
  by_cases h1 : n ≤ 127
  · simp (disch := omega) only [dT, dF, cond_true, cond_false]
    refine fin _ ?_
    unfold Lib.encodeRune
    rw [Lib.encodeRuneZ_one h0 h1]
    show [UInt8.ofNat (IntKind.u8.wrap n).toNat] = [n.toNat.toUInt8]
    rw [wrap8, show n % 256 = n by omega, Nat.toUInt8]
  by_cases h2 : n ≤ 2047
  · simp (disch := omega) only [dT, dF, cond_true, cond_false]
    refine fin _ ?_
    unfold Lib.encodeRune
    rw [Lib.encodeRuneZ_two (by omega) h2, bo8' (by omega) (by omega), bo8' (by omega) (by omega)]
    rfl
  by_cases h3 : n ≤ 65535
  · simp (disch := omega) only [dT, dF, cond_true, cond_false]
    refine fin _ ?_
    unfold Lib.encodeRune
    rw [Lib.encodeRuneZ_three (by omega), bo8' (by omega) (by omega), bo8' (by omega) (by omega), bo8' (by omega) (by omega)]
    rfl
  simp (disch := omega) only [dT, dF, cond_true, cond_false]
  refine fin _ ?_
  unfold Lib.encodeRune
  rw [Lib.encodeRuneZ_four (by omega) (by omega), bo8' (by omega) (by omega), bo8' (by omega) (by omega), bo8' (by omega) (by omega), bo8' (by omega) (by omega)]
  rfl
theorem encrTold_ok : ∀ xs H k out, encrTold encX encXE xs H k = some out → ∃ o, CallOK Tryz.prog 32 xs H o ∧ k o = some out := mkFS_ok fun ys xs e h => by
  obtain ⟨n, rfl⟩ : ∃ n, xs = [.int .i64 n] := ⟨_, e⟩
  rw [decide_eq_true_eq] at h
  exact ⟨_, fun k => rfl, Lay.nil_ok.callF (G := []) rfl (fun k => rEn_exact n h.1 h.2 k)⟩
theorem and31 (c : UInt8) : IntKind.i64.wrap ((BitVec.ofInt 64 (IntKind.i64.wrap (c.toNat : Int)) &&& BitVec.ofInt 64 31).toNat : Int) = ((c.toNat % 32 : Nat) : Int) := oct256 (p := fun c => IntKind.i64.wrap ((BitVec.ofInt 64 (IntKind.i64.wrap (c.toNat : Int)) &&& BitVec.ofInt 64 31).toNat : Int) = ((c.toNat % 32 : Nat) : Int)) (by decide +kernel) c
theorem and127 (c : UInt8) : IntKind.i64.wrap ((BitVec.ofInt 64 (IntKind.i64.wrap (c.toNat : Int)) &&& BitVec.ofInt 64 127).toNat : Int) = ((c.toNat % 128 : Nat) : Int) := oct256 (p := fun c => IntKind.i64.wrap ((BitVec.ofInt 64 (IntKind.i64.wrap (c.toNat : Int)) &&& BitVec.ofInt 64 127).toNat : Int) = ((c.toNat % 128 : Nat) : Int)) (by decide +kernel) c
theorem and15 (c : UInt8) : IntKind.i64.wrap ((BitVec.ofInt 64 (IntKind.i64.wrap (c.toNat : Int)) &&& BitVec.ofInt 64 15).toNat : Int) = ((c.toNat % 16 : Nat) : Int) := oct256 (p := fun c => IntKind.i64.wrap ((BitVec.ofInt 64 (IntKind.i64.wrap (c.toNat : Int)) &&& BitVec.ofInt 64 15).toNat : Int) = ((c.toNat % 16 : Nat) : Int)) (by decide +kernel) c
theorem and7 (c : UInt8) : IntKind.i64.wrap ((BitVec.ofInt 64 (IntKind.i64.wrap (c.toNat : Int)) &&& BitVec.ofInt 64 7).toNat : Int) = ((c.toNat % 8 : Nat) : Int) := oct256 (p := fun c => IntKind.i64.wrap ((BitVec.ofInt 64 (IntKind.i64.wrap (c.toNat : Int)) &&& BitVec.ofInt 64 7).toNat : Int) = ((c.toNat % 8 : Nat) : Int)) (by decide +kernel) c
theorem encX_good {n : Int} (h0 : 0 ≤ n) (h : n ≤ 1114111) (h2 : ¬ (55296 ≤ n ∧ n ≤ 57343)) : encX n = Lib.encodeRune n ∧ (encXE n != 0) = false := by
  have : badR n = false := by
    unfold badR
    rw [dF (show ¬ n < 0 by omega), dF (show ¬ n > 1114111 by omega)]
    by_cases h1 : 55296 ≤ n
    · rw [dF (show ¬ n ≤ 57343 by omega)]; simp
    · rw [dF h1]; rfl
  unfold encX encXE
  rw [this]
  exact ⟨rfl, rfl⟩
theorem encX_bad {n : Int} (h : n > 1114111 ∨ (55296 ≤ n ∧ n ≤ 57343)) : (encXE n != 0) = true := by
  have : badR n = true := by
    unfold badR
    rcases h with h | h
    · rw [dT h]; simp
    · rw [dT h.1, dT h.2]; simp
  unfold encXE
  rw [this]
  rfl
theorem u8_of (x : UInt8) {z : Int} (h : z = x.toNat) : z.toNat.toUInt8 = x := by
  rw [h, Int.toNat_natCast]
  exact UInt8.ofNat_toNat
theorem dgo_N (s : List UInt8) (h : s ≠ []) : Lib.decodeGo (ba s) = Lib.decodeN s.length (s.getD 0 0).toNat (s.getD 1 0).toNat (s.getD 2 0).toNat (s.getD 3 0).toNat := by
  have hl : 0 < s.length := List.length_pos_iff.2 h
  unfold Lib.decodeGo
  rw [if_neg (by rw [ba_size]; omega), Lib.decode_N]
  rfl
theorem take1 (s : List UInt8) (h : 1 ≤ s.length) : s.take 1 = [s.getD 0 0] := by
  match s, h with
  | a :: t, _ => rfl
theorem take2 (s : List UInt8) (h : 2 ≤ s.length) : s.take 2 = [s.getD 0 0, s.getD 1 0] := by
  match s, h with
  | a :: b :: t, _ => rfl
theorem take3 (s : List UInt8) (h : 3 ≤ s.length) : s.take 3 = [s.getD 0 0, s.getD 1 0, s.getD 2 0] := by
  match s, h with
  | a :: b :: c :: t, _ => rfl
theorem take4 (s : List UInt8) (h : 4 ≤ s.length) : s.take 4 = [s.getD 0 0, s.getD 1 0, s.getD 2 0, s.getD 3 0] := by
  match s, h with
  | a :: b :: c :: d :: t, _ => rfl
theorem decN_bad {s : ByteArray} (h : Lib.decodeGo s = (65533, 1)) : decC s = -1 ∧ (Lib.decodeGo s).2 = 1 := by
  unfold decC
  rw [h]
  exact ⟨rfl, rfl⟩
theorem decN_good {s : ByteArray} {c n : Nat} (h : Lib.decodeGo s = (c, n)) (h2 : ¬ (c = 65533 ∧ n < 2)) : decC s = (c : Nat) ∧ (Lib.decodeGo s).2 = n := by
  unfold decC
  rw [h]
  exact ⟨if_neg h2, rfl⟩
theorem enc_len1 (n : Int) (h0 : 0 ≤ n) (h : n ≤ 127) : (Lib.encodeRune n).length = 1 := by unfold Lib.encodeRune; rw [Lib.encodeRuneZ_one h0 h]; rfl
theorem enc_len2 (n : Int) (h0 : 128 ≤ n) (h : n ≤ 2047) : (Lib.encodeRune n).length = 2 := by unfold Lib.encodeRune; rw [Lib.encodeRuneZ_two h0 h]; rfl
theorem enc_len3 (n : Int) (h : (2048 ≤ n ∧ n < 55296) ∨ (57343 < n ∧ n ≤ 65535)) : (Lib.encodeRune n).length = 3 := by unfold Lib.encodeRune; rw [Lib.encodeRuneZ_three h]; rfl
theorem ne_len {a b : List UInt8} (h : a.length ≠ b.length) : (a == b) = false := by
  rw [beq_eq_false_iff_ne]
  exact fun e => h (by rw [e])
set_option maxHeartbeats 4000000 in
theorem rdec_call (s : List UInt8) (hs : s.length ≤ 1099511627776) (k : Out → Ans) : iFun Tryz.prog ((layRd0 encX encXE).hd Tryz.prog) (layRd0 encX encXE).fhs 9 29 [.str s] [] k = k (.ret (.tuple [.int .i64 (decC (ba s)), .int .i64 ((Lib.decodeGo (ba s)).2 : Nat)]) []) := by
  by_cases hne : s = []
  · subst hne
    have e1 : decC (ba []) = -1 := rfl
    have e2 : (Lib.decodeGo (ba [])).2 = 0 := rfl
    rw [e1, e2]
    exact rdec_fun encX encXE [] k _ rfl _ rfl _ rfl _ rfl _ rfl _ rfl _ rfl _ rfl _ rfl _ rfl _ rfl _ rfl _ rfl _ rfl _ rfl _ rfl _ rfl _ rfl _ rfl _ rfl _ rfl _ rfl _ rfl _ rfl _ rfl _ rfl
  have hl : 0 < s.length := List.length_pos_iff.2 hne
  have hD := dgo_N s hne
  have h0 := UInt8.toNat_lt (s.getD 0 0)
  have h1 := UInt8.toNat_lt (s.getD 1 0)
  have h2 := UInt8.toNat_lt (s.getD 2 0)
  have h3 := UInt8.toNat_lt (s.getD 3 0)
  have m0 := and127 (s.getD 0 0)
  have m1 := and31 (s.getD 0 0)
  have m2 := and15 (s.getD 0 0)
  have m3 := and7 (s.getD 0 0)
  have t1 := take1 s hl
  have t2 := take2 s
  have t3 := take3 s
  have t4 := take4 s
  have u0 := @u8_of (s.getD 0 0)
  have u1 := @u8_of (s.getD 1 0)
  have u2 := @u8_of (s.getD 2 0)
  have u3 := @u8_of (s.getD 3 0)
  have es : (s == []) = false := by simp [hne]
  obtain ⟨x0, e0⟩ : ∃ x, s.getD 0 0 = x := ⟨_, rfl⟩
  obtain ⟨x1, e1⟩ : ∃ x, s.getD 1 0 = x := ⟨_, rfl⟩
  obtain ⟨x2, e2⟩ : ∃ x, s.getD 2 0 = x := ⟨_, rfl⟩
  obtain ⟨x3, e3⟩ : ∃ x, s.getD 3 0 = x := ⟨_, rfl⟩
  rw [e0] at h0 m0 m1 m2 m3
  rw [e1] at h1
  rw [e2] at h2
  rw [e3] at h3
  rw [e0] at u0
  rw [e1] at u1
  rw [e2] at u2
  rw [e3] at u3
  rw [e0] at t1
  rw [e0, e1] at t2
  rw [e0, e1, e2] at t3
  rw [e0, e1, e2, e3] at t4
  rw [e0, e1, e2, e3] at hD
  obtain ⟨n, en⟩ : ∃ n : Nat, s.length = n := ⟨_, rfl⟩
  obtain ⟨b0, f0⟩ : ∃ n : Nat, x0.toNat = n := ⟨_, rfl⟩
  obtain ⟨b1, f1⟩ : ∃ n : Nat, x1.toNat = n := ⟨_, rfl⟩
  obtain ⟨b2, f2⟩ : ∃ n : Nat, x2.toNat = n := ⟨_, rfl⟩
  obtain ⟨b3, f3⟩ : ∃ n : Nat, x3.toNat = n := ⟨_, rfl⟩
  rw [en, f0, f1, f2, f3] at hD
  rw [f0] at h0 m0 m1 m2 m3
  rw [f1] at h1
  rw [f2] at h2
  rw [f3] at h3
  rw [en] at t2 t3 t4 hl hs
  simp only [f0] at u0
  simp only [f1] at u1
  simp only [f2] at u2
  simp only [f3] at u3
  have w1 : IntKind.i64.wrap ((b1 : Nat) : Int) = b1 := wrap_of (by omega) (by omega)
  have w2 : IntKind.i64.wrap ((b2 : Nat) : Int) = b2 := wrap_of (by omega) (by omega)
  have w3 : IntKind.i64.wrap ((b3 : Nat) : Int) = b3 := wrap_of (by omega) (by omega)
  refine (rdec_fun encX encXE s k (n : Int) (by rw [en]) _ rfl (b0 : Int) (by rw [e0, f0]) ((b0 % 128 : Nat) : Int) m0.symm _ rfl _ rfl (b1 : Int) (by rw [e1, f1]) _ rfl _ rfl _ rfl (b1 : Int) w1.symm (((b0 % 32 : Nat) : Int) * 64 + b1 - 128) (by rw [m1, wrap_of (n := ((b0 % 32 : Nat) : Int) * 64) (by omega) (by omega), wrap_of (n := ((b0 % 32 : Nat) : Int) * 64 + b1) (by omega) (by omega), wrap_of (by omega) (by omega)])
    _ rfl _ rfl (b2 : Int) (by rw [e2, f2]) _ rfl _ rfl _ rfl (b2 : Int) w2.symm ((((b0 % 16 : Nat) : Int) * 64 + b1 - 128) * 64 + b2 - 128) (by rw [m2, wrap_of (n := ((b0 % 16 : Nat) : Int) * 64) (by omega) (by omega), wrap_of (n := ((b0 % 16 : Nat) : Int) * 64 + b1) (by omega) (by omega), wrap_of (n := ((b0 % 16 : Nat) : Int) * 64 + b1 - 128) (by omega) (by omega), wrap_of (n := (((b0 % 16 : Nat) : Int) * 64 + b1 - 128) * 64) (by omega) (by omega), wrap_of (n := (((b0 % 16 : Nat) : Int) * 64 + b1 - 128) * 64 + b2) (by omega) (by omega), wrap_of (by omega) (by omega)])
    _ rfl _ rfl (b3 : Int) (by rw [e3, f3]) _ rfl (((((b0 % 8 : Nat) : Int) * 64 + b1 - 128) * 64 + b2 - 128) * 64 + b3 - 128) (by rw [m3, w3, wrap_of (n := ((b0 % 8 : Nat) : Int) * 64) (by omega) (by omega), wrap_of (n := ((b0 % 8 : Nat) : Int) * 64 + b1) (by omega) (by omega), wrap_of (n := ((b0 % 8 : Nat) : Int) * 64 + b1 - 128) (by omega) (by omega), wrap_of (n := (((b0 % 8 : Nat) : Int) * 64 + b1 - 128) * 64) (by omega) (by omega), wrap_of (n := (((b0 % 8 : Nat) : Int) * 64 + b1 - 128) * 64 + b2) (by omega) (by omega), wrap_of (n := (((b0 % 8 : Nat) : Int) * 64 + b1 - 128) * 64 + b2 - 128) (by omega) (by omega), wrap_of (n := ((((b0 % 8 : Nat) : Int) * 64 + b1 - 128) * 64 + b2 - 128) * 64) (by omega) (by omega), wrap_of (n := ((((b0 % 8 : Nat) : Int) * 64 + b1 - 128) * 64 + b2 - 128) * 64 + b3) (by omega) (by omega), wrap_of (by omega) (by omega)]) _ rfl).trans ?_
  have d0 : Int.toNat 0 = 0 := rfl
  have d1 : Int.toNat 1 = 1 := rfl
  have d2 : Int.toNat 2 = 2 := rfl
  have d3 : Int.toNat 3 = 3 := rfl
  have d4 : Int.toNat 4 = 4 := rfl
  simp only [es, cond_false, d0, d1, d2, d3, d4, List.drop_zero]
  unfold Lib.decodeN at hD
  have bad : Lib.decodeGo (ba s) = (65533, 1) → k (.ret (.tuple [.int .i64 (-1), .int .i64 1]) []) = k (.ret (.tuple [.int .i64 (decC (ba s)), .int .i64 ((Lib.decodeGo (ba s)).2 : Nat)]) []) := fun h => by rw [(decN_bad h).1, (decN_bad h).2]; rfl
  have good : ∀ (c m : Nat) (z : Int), Lib.decodeGo (ba s) = (c, m) → ¬ (c = 65533 ∧ m < 2) → z = c → k (.ret (.tuple [.int .i64 z, .int .i64 (m : Nat)]) []) = k (.ret (.tuple [.int .i64 (decC (ba s)), .int .i64 ((Lib.decodeGo (ba s)).2 : Nat)]) []) := fun c m z h h2 h3 => by rw [(decN_good h h2).1, (decN_good h h2).2, h3]
  by_cases c1 : b0 < 128
  · rw [if_pos c1] at hD
    obtain ⟨g1, g2⟩ := encX_good (n := ((b0 % 128 : Nat) : Int)) (by omega) (by omega) (by omega)
    have g3 : Lib.encodeRune ((b0 % 128 : Nat) : Int) = [x0] := by
      unfold Lib.encodeRune
      rw [Lib.encodeRuneZ_one (by omega) (by omega)]
      show [((b0 % 128 : Nat) : Int).toNat.toUInt8] = [x0]
      rw [u0 (z := ((b0 % 128 : Nat) : Int)) (by omega)]
    simp (disch := omega) only [dT, dF, cond_true, cond_false, g1, g2, g3, t1, beq_self_eq_true, Bool.not_true, Bool.true_or]
    exact good b0 1 _ hD (by omega) (by omega)
  rw [if_neg c1] at hD
  by_cases c2 : 194 ≤ b0 ∧ b0 < 224
  · by_cases hn : 2 > n
    · simp (disch := omega) only [dT, dF, cond_true, cond_false, Bool.true_or, Bool.or_true, Bool.not_false, Bool.not_true, Bool.or_self, Bool.or_false, Bool.false_or, Bool.not_not]
      exact bad (by rw [hD]; (repeat' split) <;> first | rfl | (exfalso; omega))
    by_cases q1 : b1 < 128
    · simp (disch := omega) only [dT, dF, cond_true, cond_false, Bool.true_or, Bool.or_true, Bool.not_false, Bool.not_true, Bool.or_self, Bool.or_false, Bool.false_or, Bool.not_not]
      exact bad (by rw [hD]; (repeat' split) <;> first | rfl | (exfalso; omega))
    by_cases p1 : b1 > 191
    · simp (disch := omega) only [dT, dF, cond_true, cond_false, Bool.true_or, Bool.or_true, Bool.not_false, Bool.not_true, Bool.or_self, Bool.or_false, Bool.false_or, Bool.not_not]
      exact bad (by rw [hD]; (repeat' split) <;> first | rfl | (exfalso; omega))
    have hN := t2 (by omega)
    obtain ⟨z, hz⟩ : ∃ z : Int, z = ((b0 % 32 : Nat) : Int) * 64 + b1 - 128 := ⟨_, rfl⟩
    rw [← hz]
    have hzc : z = ((b0 % 32 * 64 + b1 % 64 : Nat) : Int) := by omega
    obtain ⟨g1, g2⟩ := encX_good (n := z) (by omega) (by omega) (by omega)
    have g3 : Lib.encodeRune z = [x0, x1] := by
      unfold Lib.encodeRune
      rw [Lib.encodeRuneZ_two (by omega) (by omega)]
      show [(192 + z / 64).toNat.toUInt8, (128 + z % 64).toNat.toUInt8] = _
      rw [u0 (z := 192 + z / 64) (by omega), u1 (z := 128 + z % 64) (by omega)]
    simp (disch := omega) only [dT, dF, cond_true, cond_false, Bool.true_or, Bool.or_true, Bool.not_false, Bool.not_true, Bool.or_self, Bool.or_false, Bool.false_or, Bool.not_not, g1, g2, g3, hN, beq_self_eq_true]
    exact good (b0 % 32 * 64 + b1 % 64) 2 z (by rw [hD]; (repeat' split) <;> first | rfl | (exfalso; omega)) (by omega) hzc
  by_cases c3 : 224 ≤ b0 ∧ b0 < 240
  · by_cases hn : 3 > n
    · simp (disch := omega) only [dT, dF, cond_true, cond_false, Bool.true_or, Bool.or_true, Bool.not_false, Bool.not_true, Bool.or_self, Bool.or_false, Bool.false_or, Bool.not_not]
      exact bad (by rw [hD]; (repeat' split) <;> first | rfl | (exfalso; omega))
    by_cases q1 : b1 < 128
    · simp (disch := omega) only [dT, dF, cond_true, cond_false, Bool.true_or, Bool.or_true, Bool.not_false, Bool.not_true, Bool.or_self, Bool.or_false, Bool.false_or, Bool.not_not]
      exact bad (by rw [hD]; (repeat' split) <;> first | rfl | (exfalso; omega))
    by_cases p1 : b1 > 191
    · simp (disch := omega) only [dT, dF, cond_true, cond_false, Bool.true_or, Bool.or_true, Bool.not_false, Bool.not_true, Bool.or_self, Bool.or_false, Bool.false_or, Bool.not_not]
      exact bad (by rw [hD]; (repeat' split) <;> first | rfl | (exfalso; omega))
    by_cases q2 : b2 < 128
    · simp (disch := omega) only [dT, dF, cond_true, cond_false, Bool.true_or, Bool.or_true, Bool.not_false, Bool.not_true, Bool.or_self, Bool.or_false, Bool.false_or, Bool.not_not]
      exact bad (by rw [hD]; (repeat' split) <;> first | rfl | (exfalso; omega))
    by_cases p2 : b2 > 191
    · simp (disch := omega) only [dT, dF, cond_true, cond_false, Bool.true_or, Bool.or_true, Bool.not_false, Bool.not_true, Bool.or_self, Bool.or_false, Bool.false_or, Bool.not_not]
      exact bad (by rw [hD]; (repeat' split) <;> first | rfl | (exfalso; omega))
    have hN := t3 (by omega)
    obtain ⟨z, hz⟩ : ∃ z : Int, z = (((b0 % 16 : Nat) : Int) * 64 + b1 - 128) * 64 + b2 - 128 := ⟨_, rfl⟩
    rw [← hz]
    have hzc : z = ((b0 % 16 * 4096 + b1 % 64 * 64 + b2 % 64 : Nat) : Int) := by omega
    by_cases r1 : z < 2048
    · obtain ⟨g1, g2⟩ := encX_good (n := z) (by omega) (by omega) (by omega)
      have g3 : (Lib.encodeRune z == [x0, x1, x2]) = false := by
        by_cases r0 : z ≤ 127
        · exact ne_len (by rw [enc_len1 z (by omega) r0]; simp)
        · exact ne_len (by rw [enc_len2 z (by omega) (by omega)]; simp)
      simp (disch := omega) only [dT, dF, cond_true, cond_false, Bool.true_or, Bool.or_true, Bool.not_false, Bool.not_true, Bool.or_self, Bool.or_false, Bool.false_or, Bool.not_not, g1, g2, hN, g3]
      exact bad (by rw [hD]; (repeat' split) <;> first | rfl | (exfalso; omega))
    by_cases r2 : 55296 ≤ z ∧ z ≤ 57343
    · have g2 := encX_bad (n := z) (.inr r2)
      simp (disch := omega) only [dT, dF, cond_true, cond_false, Bool.true_or, Bool.or_true, Bool.not_false, Bool.not_true, Bool.or_self, Bool.or_false, Bool.false_or, Bool.not_not, g2]
      exact bad (by rw [hD]; (repeat' split) <;> first | rfl | (exfalso; omega))
    obtain ⟨g1, g2⟩ := encX_good (n := z) (by omega) (by omega) (by omega)
    have g3 : Lib.encodeRune z = [x0, x1, x2] := by
      unfold Lib.encodeRune
      rw [Lib.encodeRuneZ_three (by omega)]
      show [(224 + z / 4096).toNat.toUInt8, (128 + z / 64 % 64).toNat.toUInt8, (128 + z % 64).toNat.toUInt8] = _
      rw [u0 (z := 224 + z / 4096) (by omega), u1 (z := 128 + z / 64 % 64) (by omega), u2 (z := 128 + z % 64) (by omega)]
    simp (disch := omega) only [dT, dF, cond_true, cond_false, Bool.true_or, Bool.or_true, Bool.not_false, Bool.not_true, Bool.or_self, Bool.or_false, Bool.false_or, Bool.not_not, g1, g2, g3, hN, beq_self_eq_true]
    exact good (b0 % 16 * 4096 + b1 % 64 * 64 + b2 % 64) 3 z (by rw [hD]; (repeat' split) <;> first | rfl | (exfalso; omega)) (by omega) hzc
  by_cases c4 : 240 ≤ b0 ∧ b0 < 245
  · by_cases hn : 4 > n
    · simp (disch := omega) only [dT, dF, cond_true, cond_false, Bool.true_or, Bool.or_true, Bool.not_false, Bool.not_true, Bool.or_self, Bool.or_false, Bool.false_or, Bool.not_not]
      exact bad (by rw [hD]; (repeat' split) <;> first | rfl | (exfalso; omega))
    by_cases q1 : b1 < 128
    · simp (disch := omega) only [dT, dF, cond_true, cond_false, Bool.true_or, Bool.or_true, Bool.not_false, Bool.not_true, Bool.or_self, Bool.or_false, Bool.false_or, Bool.not_not]
      exact bad (by rw [hD]; (repeat' split) <;> first | rfl | (exfalso; omega))
    by_cases p1 : b1 > 191
    · simp (disch := omega) only [dT, dF, cond_true, cond_false, Bool.true_or, Bool.or_true, Bool.not_false, Bool.not_true, Bool.or_self, Bool.or_false, Bool.false_or, Bool.not_not]
      exact bad (by rw [hD]; (repeat' split) <;> first | rfl | (exfalso; omega))
    by_cases q2 : b2 < 128
    · simp (disch := omega) only [dT, dF, cond_true, cond_false, Bool.true_or, Bool.or_true, Bool.not_false, Bool.not_true, Bool.or_self, Bool.or_false, Bool.false_or, Bool.not_not]
      exact bad (by rw [hD]; (repeat' split) <;> first | rfl | (exfalso; omega))
    by_cases p2 : b2 > 191
    · simp (disch := omega) only [dT, dF, cond_true, cond_false, Bool.true_or, Bool.or_true, Bool.not_false, Bool.not_true, Bool.or_self, Bool.or_false, Bool.false_or, Bool.not_not]
      exact bad (by rw [hD]; (repeat' split) <;> first | rfl | (exfalso; omega))
    by_cases q3 : b3 < 128
    · simp (disch := omega) only [dT, dF, cond_true, cond_false, Bool.true_or, Bool.or_true, Bool.not_false, Bool.not_true, Bool.or_self, Bool.or_false, Bool.false_or, Bool.not_not]
      exact bad (by rw [hD]; (repeat' split) <;> first | rfl | (exfalso; omega))
    by_cases p3 : b3 > 191
    · simp (disch := omega) only [dT, dF, cond_true, cond_false, Bool.true_or, Bool.or_true, Bool.not_false, Bool.not_true, Bool.or_self, Bool.or_false, Bool.false_or, Bool.not_not]
      exact bad (by rw [hD]; (repeat' split) <;> first | rfl | (exfalso; omega))
    have hN := t4 (by omega)
    obtain ⟨z, hz⟩ : ∃ z : Int, z = ((((b0 % 8 : Nat) : Int) * 64 + b1 - 128) * 64 + b2 - 128) * 64 + b3 - 128 := ⟨_, rfl⟩
    rw [← hz]
    have hzc : z = ((b0 % 8 * 262144 + b1 % 64 * 4096 + b2 % 64 * 64 + b3 % 64 : Nat) : Int) := by omega
    by_cases r1 : z < 65536
    · by_cases r2 : 55296 ≤ z ∧ z ≤ 57343
      · have g2 := encX_bad (n := z) (.inr r2)
        simp (disch := omega) only [dT, dF, cond_true, cond_false, Bool.true_or, Bool.or_true, Bool.not_false, Bool.not_true, Bool.or_self, Bool.or_false, Bool.false_or, Bool.not_not, g2]
        exact bad (by rw [hD]; (repeat' split) <;> first | rfl | (exfalso; omega))
      obtain ⟨g1, g2⟩ := encX_good (n := z) (by omega) (by omega) (by omega)
      have g3 : (Lib.encodeRune z == [x0, x1, x2, x3]) = false := by
        by_cases r0 : z ≤ 127
        · exact ne_len (by rw [enc_len1 z (by omega) r0]; simp)
        by_cases r00 : z ≤ 2047
        · exact ne_len (by rw [enc_len2 z (by omega) (by omega)]; simp)
        · exact ne_len (by rw [enc_len3 z (by omega)]; simp)
      simp (disch := omega) only [dT, dF, cond_true, cond_false, Bool.true_or, Bool.or_true, Bool.not_false, Bool.not_true, Bool.or_self, Bool.or_false, Bool.false_or, Bool.not_not, g1, g2, hN, g3]
      exact bad (by rw [hD]; (repeat' split) <;> first | rfl | (exfalso; omega))
    by_cases r2 : z > 1114111
    · have g2 := encX_bad (n := z) (.inl r2)
      simp (disch := omega) only [dT, dF, cond_true, cond_false, Bool.true_or, Bool.or_true, Bool.not_false, Bool.not_true, Bool.or_self, Bool.or_false, Bool.false_or, Bool.not_not, g2]
      exact bad (by rw [hD]; (repeat' split) <;> first | rfl | (exfalso; omega))
    obtain ⟨g1, g2⟩ := encX_good (n := z) (by omega) (by omega) (by omega)
    have g3 : Lib.encodeRune z = [x0, x1, x2, x3] := by
      unfold Lib.encodeRune
      rw [Lib.encodeRuneZ_four (by omega) (by omega)]
      show [(240 + z / 262144).toNat.toUInt8, (128 + z / 4096 % 64).toNat.toUInt8, (128 + z / 64 % 64).toNat.toUInt8, (128 + z % 64).toNat.toUInt8] = _
      rw [u0 (z := 240 + z / 262144) (by omega), u1 (z := 128 + z / 4096 % 64) (by omega), u2 (z := 128 + z / 64 % 64) (by omega), u3 (z := 128 + z % 64) (by omega)]
    simp (disch := omega) only [dT, dF, cond_true, cond_false, Bool.true_or, Bool.or_true, Bool.not_false, Bool.not_true, Bool.or_self, Bool.or_false, Bool.false_or, Bool.not_not, g1, g2, g3, hN, beq_self_eq_true]
    exact good (b0 % 8 * 262144 + b1 % 64 * 4096 + b2 % 64 * 64 + b3 % 64) 4 z (by rw [hD]; (repeat' split) <;> first | rfl | (exfalso; omega)) (by omega) hzc
  have k1 : (bif decide ((b0 : Int) ≥ 194) then decide ((b0 : Int) < 224) else false) = false := by
    by_cases h : (b0 : Int) ≥ 194
    · rw [dT h, dF (show ¬ (b0 : Int) < 224 by omega)]; rfl
    · rw [dF h]; rfl
  have k2 : (bif decide ((b0 : Int) ≥ 224) then decide ((b0 : Int) < 240) else false) = false := by
    by_cases h : (b0 : Int) ≥ 224
    · rw [dT h, dF (show ¬ (b0 : Int) < 240 by omega)]; rfl
    · rw [dF h]; rfl
  have k3 : (bif decide ((b0 : Int) ≥ 240) then decide ((b0 : Int) < 245) else false) = false := by
    by_cases h : (b0 : Int) ≥ 240
    · rw [dT h, dF (show ¬ (b0 : Int) < 245 by omega)]; rfl
    · rw [dF h]; rfl
  rw [dT (show (0 : Int) < n by omega), dF (show ¬ (b0 : Int) < 128 by omega), k1, k2, k3]
  simp only [cond_true, cond_false]
  exact bad (by rw [hD]; (repeat' split) <;> first | rfl | (exfalso; omega))
def rdP (s : List UInt8) : Int × Nat := (decC (ba s), (Lib.decodeGo (ba s)).2)
theorem layRd0_ok : (layRd0 encX encXE).OK Tryz.prog := Lay.nil_ok.addF encrTold_ok
end Go.Mu
set_option linter.unusedVariables false
set_option linter.unusedSimpArgs false
set_option maxRecDepth 100000
namespace Go.Mu
open Go Go.Proofs
abbrev RdP := List UInt8 → Int × Nat
def rdTold (W : RdP) : FSp := mkFS [.s] (fun xs => decide ((aS xs 0).length ≤ 1099511627776)) (fun xs k => k (.ret (.tuple [.int .i64 (W (aS xs 0)).1, .int .i64 ((W (aS xs 0)).2 : Nat)]) []))
def layRc0 (W : RdP) : Lay := Lay.nil.addF 29 (rdTold W)
def ichRow (c : Int) : List AVal := [.int .i64 c]
abbrev RcR := List UInt8 → List Int
noncomputable def rcSp (R : RcR) : LSp := mkL (fun vs _ H => (aS vs 0, (aI vs 2).toNat)) (fun x => x.2 = 0 ∧ x.1.length ≤ 1099511627776) (fun x => [.str x.1, nilList, .int .i64 (x.2 : Nat)]) (fun _ => []) (fun _ => [])
  (fun x k => cond (x.1 == []) (k (.exit 0) [nilList] [] []) (k (.exit 0) [.own 0 0 (R x.1).length ((R x.1).length - 1) false] [] [.arr 1 ((R x.1).map ichRow) ((R x.1).length - 1)]))
noncomputable def rcFH (R : RcR) : FH := .of [(3, loopSpec 28 [0,3,4] [] [3] [] (rcSp R))]
theorem rc_s0 (R : RcR) (W : RdP) (s : List UInt8) (i : Int) (D : List (FuncId × List AVal)) (k : Kont) : lturn Tryz.prog (layRc0 W) (rcFH R) 16 3 [0,3,4] [] [3] [] (stL 28 [0,3,4] [.str s, nilList, .int .i64 i] [] [] [] D) k = (
 let n0 : Int := (↑s.length : Int);
 let l1 : List UInt8 := List.drop i.toNat (List.take n0.toNat s);
 let n2 : Int := (W l1).fst;
  bif decide (i < n0) then
  bif decide (0 ≤ i) && decide (i ≤ n0) && decide (n0 ≤ n0) then
  bif decide (l1.length ≤ 1099511627776) then
  bif decide (n2 ≤ 0) then
  k AExit.normal
  (stL 28 [0, 3, 4]
  [AVal.str s, AVal.own 0 0 (0 + 1) 0 false,
  AVal.int IntKind.i64 (IntKind.i64.wrap (i + (↑(W l1).snd : Int)))]
  [] [] [Obj.arr 1 [[AVal.int IntKind.i64 65533]] 0] D)
  else
  k AExit.normal
  (stL 28 [0, 3, 4]
  [AVal.str s, AVal.own 0 0 (0 + 1) 0 false,
  AVal.int IntKind.i64 (IntKind.i64.wrap (i + (↑(W l1).snd : Int)))]
  [] [] [Obj.arr 1 [[AVal.int IntKind.i64 n2]] 0] D)
  else none
  else none
  else k (AExit.exit 0) (stL 28 [3] [AVal.list true 0 fun (x : Nat) => []] [] [] [] D)) := by kernel_rfl
theorem rc_s1 (R : RcR) (W : RdP) (s : List UInt8) (i : Int) (q v : Nat) (rows : List (List AVal)) (D : List (FuncId × List AVal)) (k : Kont) : lturn Tryz.prog (layRc0 W) (rcFH R) 16 3 [0,3,4] [] [3] [] (stL 28 [0,3,4] [.str s, .own 0 0 q v false, .int .i64 i] [] [] [.arr 1 rows v] D) k = (
 let n0 : Int := (↑s.length : Int);
 let l1 : List UInt8 := List.drop i.toNat (List.take n0.toNat s);
 let n2 : Int := (W l1).fst;
 let m3 : Nat := q + 1;
 let c4 : Bool := v == v && q == rows.length && decide ((2 * m3 + 1000) * 8 ≤ 281474976710656) && true;
 let m5 : Nat := v + 1;
  bif decide (i < n0) then
  bif decide (0 ≤ i) && decide (i ≤ n0) && decide (n0 ≤ n0) then
  bif decide (l1.length ≤ 1099511627776) then
  bif decide (n2 ≤ 0) then
  bif c4 then
  k AExit.normal
  (stL 28 [0, 3, 4]
  [AVal.str s, AVal.own 0 0 m3 m5 false, AVal.int IntKind.i64 (IntKind.i64.wrap (i + (↑(W l1).snd : Int)))]
  [] [] [Obj.arr 1 (rows.append [[AVal.int IntKind.i64 65533]]) m5] D)
  else none
  else
  bif c4 then
  k AExit.normal
  (stL 28 [0, 3, 4]
  [AVal.str s, AVal.own 0 0 m3 m5 false, AVal.int IntKind.i64 (IntKind.i64.wrap (i + (↑(W l1).snd : Int)))]
  [] [] [Obj.arr 1 (rows.append [[AVal.int IntKind.i64 n2]]) m5] D)
  else none
  else none
  else none
  else k (AExit.exit 0) (stL 28 [3] [AVal.own 0 0 q v false] [] [] [Obj.arr 1 rows v] D)) := by kernel_rfl
noncomputable def layRc (W : RdP) (R : RcR) : Lay := (layRc0 W).addL 16 (rcFH R)
theorem rc_fun (W : RdP) (R : RcR) (s : List UInt8) (k : Out → Ans) : iFun Tryz.prog ((layRc W R).hd Tryz.prog) (layRc W R).fhs 0 16 [.str s] [] k = (
 let m0 : Nat := (R s).length - 1;
  bif
  tst
  ((Int.toNat 0 = 0 ∧ s.length ≤ 1099511627776) ∧
  SubTL [AVal.str s, AVal.list true 0 fun (x : Nat) => [], AVal.int IntKind.i64 0]
  [AVal.str s, AVal.list true 0 fun (x : Nat) => [], AVal.int IntKind.i64 (↑(Int.toNat 0) : Int)] ∧
  ([] : List (List AVal)) = [] ∧ ([] : Heap) = []) then
  bif s == [] then k (Out.ret (AVal.list true 0 fun (x : Nat) => []) [])
  else k (Out.ret (AVal.own 0 0 (R s).length m0 false) [Obj.arr 1 (List.map ichRow (R s)) m0])
  else none) := by kernel_rfl
def rpcTold (C : RcR) : FSp := mkFS [.s] (fun xs => decide ((aS xs 0).length ≤ 1099511627776)) (fun xs k => k (.ret (encL false ichRow 0 (C (aS xs 0))) []))
def layRr0 (C : RcR) (X : Int → List UInt8) (E : Int → Int) : Lay := (Lay.nil.addF 16 (rpcTold C)).addF 32 (encrTold X E)
def okCh (l : List Int) : Prop := ∀ c ∈ l, 0 < c ∧ c ≤ 1114111 ∧ ¬ (55296 ≤ c ∧ c ≤ 57343)
abbrev RrR := List Int → List UInt8 × Nat
noncomputable def rrSp (R : RrR) : LSp := mkL (fun vs _ H => (fullOf (vs.getD 1 .undef), decL (fun r => intOf (r.getD 0 .undef)) (vs.getD 1 .undef), (aI vs 2).toNat)) (fun x => x.2.2 = 0 ∧ x.2.1.length ≤ 17592186044416 ∧ okCh x.2.1) (fun x => [nilList, encL x.1 ichRow 0 x.2.1, .int .i64 (x.2.2 : Nat)]) (fun _ => []) (fun _ => [])
  (fun x k => cond (x.2.1 == []) (k (.exit 0) [nilList] [] []) (k (.exit 0) [.own 0 0 (R x.2.1).1.length (R x.2.1).2 false] [] [.arr 1 ((R x.2.1).1.map byteRow) (R x.2.1).2]))
noncomputable def rrFH (R : RrR) : FH := .of [(4, loopSpec 29 [3,4,5] [] [3] [] (rrSp R))]
theorem rr_s0 (R : RrR) (C : RcR) (X : Int → List UInt8) (E : Int → Int) (f : Bool) (l : List Int) (i : Int) (D : List (FuncId × List AVal)) (k : Kont) : lturn Tryz.prog (layRr0 C X E) (rrFH R) 19 4 [3,4,5] [] [3] [] (stL 29 [3,4,5] [nilList, encL f ichRow 0 l, .int .i64 i] [] [] [] D) k = (
 let c0 : Bool := decide (i < (↑l.length : Int));
 let n1 : Int := l.getD i.toNat 0;
 let m2 : Nat := (List.map (fun (c : UInt8) => [AVal.int IntKind.u8 (↑c.toNat : Int)]) (X n1)).length;
 let m3 : Nat := 0 + m2;
  bif c0 then
  bif decide (0 ≤ i) && c0 then
  bif decide (0 ≤ n1 ∧ n1 ≤ 2147483647) then
  bif (decide (0 < m2) || true) && decide ((2 * m3 + 1000) * 1 ≤ 281474976710656) then
  k AExit.normal
  (stL 29 [3, 4, 5]
  [AVal.own 0 0 m3 0 false, AVal.list f l.length fun (i : Nat) => ichRow (l.getD i 0),
  AVal.int IntKind.i64 (IntKind.i64.wrap (i + 1))]
  [] [] [Obj.arr 1 (List.map (fun (c : UInt8) => [AVal.int IntKind.u8 (↑c.toNat : Int)]) (X n1)) 0] D)
  else none
  else none
  else none
  else k (AExit.exit 0) (stL 29 [3] [AVal.list true 0 fun (x : Nat) => []] [] [] [] D)) := by kernel_rfl
theorem rr_s1 (R : RrR) (C : RcR) (X : Int → List UInt8) (E : Int → Int) (f : Bool) (l : List Int) (i : Int) (q v : Nat) (rows : List (List AVal)) (D : List (FuncId × List AVal)) (k : Kont) : lturn Tryz.prog (layRr0 C X E) (rrFH R) 19 4 [3,4,5] [] [3] [] (stL 29 [3,4,5] [.own 0 0 q v false, encL f ichRow 0 l, .int .i64 i] [] [] [.arr 1 rows v] D) k = (
 let c0 : Bool := decide (i < (↑l.length : Int));
 let n1 : Int := l.getD i.toNat 0;
 let m2 : Nat := q + (List.map (fun (c : UInt8) => [AVal.int IntKind.u8 (↑c.toNat : Int)]) (X n1)).length;
 let m3 : Nat := v + 1;
  bif c0 then
  bif decide (0 ≤ i) && c0 then
  bif decide (0 ≤ n1 ∧ n1 ≤ 2147483647) then
  bif v == v && q == rows.length && decide ((2 * m2 + 1000) * 1 ≤ 281474976710656) && true then
  k AExit.normal
  (stL 29 [3, 4, 5]
  [AVal.own 0 0 m2 m3 false, AVal.list f l.length fun (i : Nat) => ichRow (l.getD i 0),
  AVal.int IntKind.i64 (IntKind.i64.wrap (i + 1))]
  [] []
  [Obj.arr 1 (rows.append (List.map (fun (c : UInt8) => [AVal.int IntKind.u8 (↑c.toNat : Int)]) (X n1))) m3]
  D)
  else none
  else none
  else none
  else k (AExit.exit 0) (stL 29 [3] [AVal.own 0 0 q v false] [] [] [Obj.arr 1 rows v] D)) := by kernel_rfl
noncomputable def layRr (C : RcR) (X : Int → List UInt8) (E : Int → Int) (R : RrR) : Lay := (layRr0 C X E).addL 19 (rrFH R)
theorem rr_fun (C : RcR) (X : Int → List UInt8) (E : Int → Int) (R : RrR) (s : List UInt8) (k : Out → Ans) : iFun Tryz.prog ((layRr C X E R).hd Tryz.prog) (layRr C X E R).fhs 0 19 [.str s] [] k = (
 let m0 : Nat :=
  (decL (fun (r : List AVal) => intOf (r.getD 0 AVal.undef))
  (AVal.list false (C s).length fun (i : Nat) => ichRow ((C s).getD i 0))).length;
 let m1 : Nat :=
  (R
  (decL (fun (r : List AVal) => intOf (r.getD 0 AVal.undef))
  (AVal.list false (C s).length fun (i : Nat) => ichRow ((C s).getD i 0)))).snd;
 let l2 : List UInt8 :=
  (R
  (decL (fun (r : List AVal) => intOf (r.getD 0 AVal.undef))
  (AVal.list false (C s).length fun (i : Nat) => ichRow ((C s).getD i 0)))).fst;
 let m3 : Nat := l2.length;
  bif decide (s.length ≤ 1099511627776) then
  bif
  tst
  ((Int.toNat 0 = 0 ∧
  m0 ≤ 17592186044416 ∧
  okCh
  (decL (fun (r : List AVal) => intOf (r.getD 0 AVal.undef))
  (AVal.list false (C s).length fun (i : Nat) => ichRow ((C s).getD i 0)))) ∧
  SubTL
  [AVal.list true 0 fun (x : Nat) => [],
  AVal.list false (C s).length fun (i : Nat) => ichRow ((C s).getD i 0), AVal.int IntKind.i64 0]
  [AVal.list true 0 fun (x : Nat) => [],
  AVal.list false m0 fun (i : Nat) =>
  ichRow
  ((decL (fun (r : List AVal) => intOf (r.getD 0 AVal.undef))
  (AVal.list false (C s).length fun (i : Nat) => ichRow ((C s).getD i 0))).getD
  i 0),
  AVal.int IntKind.i64 (↑(Int.toNat 0) : Int)] ∧
  ([] : List (List AVal)) = [] ∧ ([] : Heap) = []) then
  bif
  decL (fun (r : List AVal) => intOf (r.getD 0 AVal.undef))
  (AVal.list false (C s).length fun (i : Nat) => ichRow ((C s).getD i 0)) ==
  [] then
  k (Out.ret (AVal.str []) [])
  else
  bif
  m1 == m1 && true &&
  decide (0 + m3 ≤ (List.map (fun (c : UInt8) => [AVal.int IntKind.u8 (↑c.toNat : Int)]) l2).length) &&
  (List.take m3 (List.drop 0 (List.map (fun (c : UInt8) => [AVal.int IntKind.u8 (↑c.toNat : Int)]) l2))).all
  fun (r : List AVal) =>
  match r with
  | [v] => isInt IntKind.u8 v
  | x => false then
  k
  (Out.ret
  (AVal.str
  (List.map (fun (r : List AVal) => UInt8.ofNat (intOf (r.getD 0 AVal.undef)).toNat)
  (List.take m3 (List.drop 0 (List.map (fun (c : UInt8) => [AVal.int IntKind.u8 (↑c.toNat : Int)]) l2)))))
  [Obj.arr 1 (List.map (fun (c : UInt8) => [AVal.int IntKind.u8 (↑c.toNat : Int)]) l2) m1])
  else none
  else none
  else none) := by kernel_rfl
def ursTold (R : List UInt8 → List UInt8) : FSp := mkFS [.s] (fun xs => decide ((aS xs 0).length ≤ 1073741824)) (fun xs k => k (.ret (.str (R (aS xs 0))) []))
def layRe0 (R : List UInt8 → List UInt8) : Lay := Lay.nil.addF 19 (ursTold R)
abbrev ReR := List UInt8 → List UInt8 × Nat
noncomputable def reSp (R : ReR) : LSp := mkL (fun vs _ H => (aS vs 0, (aI vs 2).toNat)) (fun x => x.2 = 0 ∧ x.1.length ≤ 17592186044416) (fun x => [.str x.1, nilList, .int .i64 (x.2 : Nat)]) (fun _ => []) (fun _ => [])
  (fun x k => cond (x.1 == []) (k (.exit 0) [nilList] [] []) (k (.exit 0) [.own 0 0 (R x.1).1.length (R x.1).2 false] [] [.arr 1 ((R x.1).1.map byteRow) (R x.1).2]))
noncomputable def reFH (R : ReR) : FH := .of [(4, loopSpec 49 [3,4,5] [] [4] [] (reSp R))]
theorem re_s0 (R : ReR) (W : List UInt8 → List UInt8) (s : List UInt8) (i : Int) (D : List (FuncId × List AVal)) (k : Kont) : lturn Tryz.prog (layRe0 W) (reFH R) 11 4 [3,4,5] [] [4] [] (stL 49 [3,4,5] [.str s, nilList, .int .i64 i] [] [] [] D) k = (
 let c0 : Bool := decide (i < (↑s.length : Int));
 let c1 : Bool := decide (0 ≤ i) && c0;
 let n2 : Int := (↑(s.getD i.toNat 0).toNat : Int);
  bif c0 then
  bif c1 then
  bif n2 == 38 then
  k AExit.normal
  (stL 49 [3, 4, 5] [AVal.str s, AVal.own 0 0 5 0 false, AVal.int IntKind.i64 (IntKind.i64.wrap (i + 1))] [] []
  [Obj.arr 1
  [[AVal.int IntKind.u8 38], [AVal.int IntKind.u8 97], [AVal.int IntKind.u8 109], [AVal.int IntKind.u8 112],
  [AVal.int IntKind.u8 59]]
  0]
  D)
  else
  bif n2 == 60 then
  k AExit.normal
  (stL 49 [3, 4, 5] [AVal.str s, AVal.own 0 0 4 0 false, AVal.int IntKind.i64 (IntKind.i64.wrap (i + 1))] [] []
  [Obj.arr 1
  [[AVal.int IntKind.u8 38], [AVal.int IntKind.u8 108], [AVal.int IntKind.u8 116],
  [AVal.int IntKind.u8 59]]
  0]
  D)
  else
  bif n2 == 62 then
  k AExit.normal
  (stL 49 [3, 4, 5] [AVal.str s, AVal.own 0 0 4 0 false, AVal.int IntKind.i64 (IntKind.i64.wrap (i + 1))] []
  []
  [Obj.arr 1
  [[AVal.int IntKind.u8 38], [AVal.int IntKind.u8 103], [AVal.int IntKind.u8 116],
  [AVal.int IntKind.u8 59]]
  0]
  D)
  else
  bif n2 == 34 then
  k AExit.normal
  (stL 49 [3, 4, 5] [AVal.str s, AVal.own 0 0 5 0 false, AVal.int IntKind.i64 (IntKind.i64.wrap (i + 1))] []
  []
  [Obj.arr 1
  [[AVal.int IntKind.u8 38], [AVal.int IntKind.u8 35], [AVal.int IntKind.u8 51],
  [AVal.int IntKind.u8 52], [AVal.int IntKind.u8 59]]
  0]
  D)
  else
  bif n2 == 39 then
  k AExit.normal
  (stL 49 [3, 4, 5] [AVal.str s, AVal.own 0 0 5 0 false, AVal.int IntKind.i64 (IntKind.i64.wrap (i + 1))]
  [] []
  [Obj.arr 1
  [[AVal.int IntKind.u8 38], [AVal.int IntKind.u8 35], [AVal.int IntKind.u8 51],
  [AVal.int IntKind.u8 57], [AVal.int IntKind.u8 59]]
  0]
  D)
  else
  bif n2 == 43 then
  k AExit.normal
  (stL 49 [3, 4, 5]
  [AVal.str s, AVal.own 0 0 5 0 false, AVal.int IntKind.i64 (IntKind.i64.wrap (i + 1))] [] []
  [Obj.arr 1
  [[AVal.int IntKind.u8 38], [AVal.int IntKind.u8 35], [AVal.int IntKind.u8 52],
  [AVal.int IntKind.u8 51], [AVal.int IntKind.u8 59]]
  0]
  D)
  else
  bif c1 then
  k AExit.normal
  (stL 49 [3, 4, 5]
  [AVal.str s, AVal.own 0 0 (0 + 1) 0 false, AVal.int IntKind.i64 (IntKind.i64.wrap (i + 1))] [] []
  [Obj.arr 1 [[AVal.int IntKind.u8 n2]] 0] D)
  else none
  else none
  else k (AExit.exit 0) (stL 49 [4] [AVal.list true 0 fun (x : Nat) => []] [] [] [] D)) := by kernel_rfl
theorem re_s1 (R : ReR) (W : List UInt8 → List UInt8) (s : List UInt8) (i : Int) (q v : Nat) (rows : List (List AVal)) (D : List (FuncId × List AVal)) (k : Kont) : lturn Tryz.prog (layRe0 W) (reFH R) 11 4 [3,4,5] [] [4] [] (stL 49 [3,4,5] [.str s, .own 0 0 q v false, .int .i64 i] [] [] [.arr 1 rows v] D) k = (
 let c0 : Bool := decide (i < (↑s.length : Int));
 let c1 : Bool := decide (0 ≤ i) && c0;
 let n2 : Int := (↑(s.getD i.toNat 0).toNat : Int);
 let c3 : Bool := v == v && q == rows.length;
 let m4 : Nat := q + 5;
 let c5 : Bool := c3 && decide ((2 * m4 + 1000) * 1 ≤ 281474976710656) && true;
 let m6 : Nat := v + 1;
 let m7 : Nat := q + 4;
 let c8 : Bool := c3 && decide ((2 * m7 + 1000) * 1 ≤ 281474976710656) && true;
 let m9 : Nat := q + 1;
  bif c0 then
  bif c1 then
  bif n2 == 38 then
  bif c5 then
  k AExit.normal
  (stL 49 [3, 4, 5] [AVal.str s, AVal.own 0 0 m4 m6 false, AVal.int IntKind.i64 (IntKind.i64.wrap (i + 1))] []
  []
  [Obj.arr 1
  (rows.append
  [[AVal.int IntKind.u8 38], [AVal.int IntKind.u8 97], [AVal.int IntKind.u8 109],
  [AVal.int IntKind.u8 112], [AVal.int IntKind.u8 59]])
  m6]
  D)
  else none
  else
  bif n2 == 60 then
  bif c8 then
  k AExit.normal
  (stL 49 [3, 4, 5] [AVal.str s, AVal.own 0 0 m7 m6 false, AVal.int IntKind.i64 (IntKind.i64.wrap (i + 1))] []
  []
  [Obj.arr 1
  (rows.append
  [[AVal.int IntKind.u8 38], [AVal.int IntKind.u8 108], [AVal.int IntKind.u8 116],
  [AVal.int IntKind.u8 59]])
  m6]
  D)
  else none
  else
  bif n2 == 62 then
  bif c8 then
  k AExit.normal
  (stL 49 [3, 4, 5] [AVal.str s, AVal.own 0 0 m7 m6 false, AVal.int IntKind.i64 (IntKind.i64.wrap (i + 1))]
  [] []
  [Obj.arr 1
  (rows.append
  [[AVal.int IntKind.u8 38], [AVal.int IntKind.u8 103], [AVal.int IntKind.u8 116],
  [AVal.int IntKind.u8 59]])
  m6]
  D)
  else none
  else
  bif n2 == 34 then
  bif c5 then
  k AExit.normal
  (stL 49 [3, 4, 5]
  [AVal.str s, AVal.own 0 0 m4 m6 false, AVal.int IntKind.i64 (IntKind.i64.wrap (i + 1))] [] []
  [Obj.arr 1
  (rows.append
  [[AVal.int IntKind.u8 38], [AVal.int IntKind.u8 35], [AVal.int IntKind.u8 51],
  [AVal.int IntKind.u8 52], [AVal.int IntKind.u8 59]])
  m6]
  D)
  else none
  else
  bif n2 == 39 then
  bif c5 then
  k AExit.normal
  (stL 49 [3, 4, 5]
  [AVal.str s, AVal.own 0 0 m4 m6 false, AVal.int IntKind.i64 (IntKind.i64.wrap (i + 1))] [] []
  [Obj.arr 1
  (rows.append
  [[AVal.int IntKind.u8 38], [AVal.int IntKind.u8 35], [AVal.int IntKind.u8 51],
  [AVal.int IntKind.u8 57], [AVal.int IntKind.u8 59]])
  m6]
  D)
  else none
  else
  bif n2 == 43 then
  bif c5 then
  k AExit.normal
  (stL 49 [3, 4, 5]
  [AVal.str s, AVal.own 0 0 m4 m6 false, AVal.int IntKind.i64 (IntKind.i64.wrap (i + 1))] [] []
  [Obj.arr 1
  (rows.append
  [[AVal.int IntKind.u8 38], [AVal.int IntKind.u8 35], [AVal.int IntKind.u8 52],
  [AVal.int IntKind.u8 51], [AVal.int IntKind.u8 59]])
  m6]
  D)
  else none
  else
  bif c1 then
  bif c3 && decide ((2 * m9 + 1000) * 1 ≤ 281474976710656) && true then
  k AExit.normal
  (stL 49 [3, 4, 5]
  [AVal.str s, AVal.own 0 0 m9 m6 false, AVal.int IntKind.i64 (IntKind.i64.wrap (i + 1))] [] []
  [Obj.arr 1 (rows.append [[AVal.int IntKind.u8 n2]]) m6] D)
  else none
  else none
  else none
  else k (AExit.exit 0) (stL 49 [4] [AVal.own 0 0 q v false] [] [] [Obj.arr 1 rows v] D)) := by kernel_rfl
noncomputable def layRe (W : List UInt8 → List UInt8) (R : ReR) : Lay := (layRe0 W).addL 11 (reFH R)
theorem re_fun (W : List UInt8 → List UInt8) (R : ReR) (s : List UInt8) (k : Out → Ans) : iFun Tryz.prog ((layRe W R).hd Tryz.prog) (layRe W R).fhs 0 11 [.str s] [] k = (
 let m0 : Nat := (R (W s)).snd;
 let l1 : List UInt8 := (R (W s)).fst;
 let m2 : Nat := l1.length;
  bif decide (s.length ≤ 1073741824) then
  bif
  tst
  ((Int.toNat 0 = 0 ∧ (W s).length ≤ 17592186044416) ∧
  SubTL [AVal.str (W s), AVal.list true 0 fun (x : Nat) => [], AVal.int IntKind.i64 0]
  [AVal.str (W s), AVal.list true 0 fun (x : Nat) => [], AVal.int IntKind.i64 (↑(Int.toNat 0) : Int)] ∧
  ([] : List (List AVal)) = [] ∧ ([] : Heap) = []) then
  bif W s == [] then k (Out.ret (AVal.str []) [])
  else
  bif
  m0 == m0 && true &&
  decide (0 + m2 ≤ (List.map (fun (c : UInt8) => [AVal.int IntKind.u8 (↑c.toNat : Int)]) l1).length) &&
  (List.take m2 (List.drop 0 (List.map (fun (c : UInt8) => [AVal.int IntKind.u8 (↑c.toNat : Int)]) l1))).all
  fun (r : List AVal) =>
  match r with
  | [v] => isInt IntKind.u8 v
  | x => false then
  k
  (Out.ret
  (AVal.str
  (List.map (fun (r : List AVal) => UInt8.ofNat (intOf (r.getD 0 AVal.undef)).toNat)
  (List.take m2 (List.drop 0 (List.map (fun (c : UInt8) => [AVal.int IntKind.u8 (↑c.toNat : Int)]) l1)))))
  [Obj.arr 1 (List.map (fun (c : UInt8) => [AVal.int IntKind.u8 (↑c.toNat : Int)]) l1) m0])
  else none
  else none
  else none) := by kernel_rfl
end Go.Mu
set_option linter.unusedVariables false
set_option linter.unusedSimpArgs false
set_option maxRecDepth 100000
namespace Go.Mu
open Go Go.Proofs
variable {P : Program}
theorem Lay.OK.callN {L : Lay} (h : L.OK P) {f : FuncId} {xs : List AVal} {v : AVal} {G : Heap} (F : Nat) (hv : refsD 6 0 v = true) (hr : ∀ k, iFun P (L.hd P) L.fhs F f xs [] k = k (.ret v G)) : CallOK P f xs [] (.ret v []) := by
  refine CallOK.shrink (H := []) (H' := []) (G := G) ?_ (Nat.le_refl _) hv (fun x hx => by cases hx)
  classical
  have hz : iFun P (L.hd P) L.fhs F f xs [] (fun o' => if o' = .ret v G then some (.ret v G) else none) = some (.ret v G) := (hr _).trans (by simp)
  obtain ⟨o', h1, h2⟩ := iFun_sound h.hok (fun g => ⟨regions_ok h.hok _, h.l g⟩) hz
  split at h2
  · rename_i e; rw [e] at h1; exact h1
  · simp at h2
theorem rdcTold_ok : ∀ xs H k out, rdTold rdP xs H k = some out → ∃ o, CallOK Tryz.prog 29 xs H o ∧ k o = some out := mkFS_ok fun ys xs e h => by
  obtain ⟨s, rfl⟩ : ∃ s, xs = [.str s] := ⟨_, e⟩
  have h2 : s.length ≤ 1099511627776 := of_decide_eq_true h
  exact ⟨_, fun k => rfl, layRd0_ok.callN (G := []) 9 rfl (fun k => rdec_call s h2 k)⟩
theorem layRc0_ok : (layRc0 rdP).OK Tryz.prog := Lay.nil_ok.addF rdcTold_ok
theorem rep_of (t : ByteArray) : repC t = if decC t ≤ 0 then 65533 else decC t := by
  unfold repC decC
  by_cases h : (Lib.decodeGo t).1 = 65533 ∧ (Lib.decodeGo t).2 < 2
  · rw [if_pos h, h.1]; simp
  · rw [if_neg h]
    by_cases h0 : (Lib.decodeGo t).1 = 0
    · rw [if_pos h0, if_pos (by omega)]
    · rw [if_neg h0, if_neg (by omega)]
theorem ba_ext (s : List UInt8) (w : Nat) : (ba s).extract w (ba s).size = ba (s.drop w) := by
  apply ByteArray.ext
  rw [ByteArray.data_extract]
  apply Array.ext'
  simp [ba, ByteArray.size]
  exact List.take_of_length_le (by simp)
theorem dgo_w (s : List UInt8) (h : s ≠ []) : 1 ≤ (Lib.decodeGo (ba s)).2 ∧ (Lib.decodeGo (ba s)).2 ≤ s.length := by
  have hl : 0 < s.length := List.length_pos_iff.2 h
  have hz : ¬ (ba s).size = 0 := by rw [ba_size]; omega
  have hdG : Lib.decodeGo (ba s) = Utf8.decode (ba s) 0 := by unfold Lib.decodeGo; rw [if_neg hz]
  rw [hdG]
  exact ⟨Lib.width_pos (ba s) 0, Lib.width_le (ba s) (by rw [ba_size]; omega)⟩
def chL (m : Nat) (s : List UInt8) : List Int := chF m (ba s)
theorem chL_cons (m : Nat) (s : List UInt8) (h : s ≠ []) : chL (m + 1) s = (if (rdP s).1 ≤ 0 then 65533 else (rdP s).1) :: chL m (s.drop (rdP s).2) := by
  have hl : 0 < s.length := List.length_pos_iff.2 h
  unfold chL
  rw [chF, if_neg (by rw [ba_size]; omega), ba_ext, rep_of]
  rfl
theorem chL_nil (m : Nat) : chL m [] = [] := by
  cases m with
  | zero => rfl
  | succ m => unfold chL; rw [chF, if_pos (by rfl)]
theorem rdP_w (s : List UInt8) (h : s ≠ []) : 1 ≤ (rdP s).2 ∧ (rdP s).2 ≤ s.length := dgo_w s h
theorem chL_len : ∀ (m : Nat) (s : List UInt8), (chL m s).length ≤ s.length
  | 0, s => Nat.zero_le _
  | m + 1, s => by
    by_cases h : s = []
    · subst h; rw [chL_nil]; exact Nat.le_refl _
    · have hw := rdP_w s h
      rw [chL_cons m s h, List.length_cons]
      have := chL_len m (s.drop (rdP s).2)
      rw [List.length_drop] at this
      omega
noncomputable abbrev rcTurn := lturn Tryz.prog (layRc0 rdP) (rcFH (fun s => chL s.length s)) 16 3 [0,3,4] [] [3] []
theorem h_row (l : List Int) (c : Int) : (l.map ichRow).append [[AVal.int IntKind.i64 c]] = (l ++ [c]).map ichRow := by
  show l.map ichRow ++ [ichRow c] = _
  rw [List.map_append]; rfl
theorem rc_own (s : List UInt8) (hs : s.length ≤ 1099511627776) : ∀ (m i : Nat) (l : List Int) (v : Nat), s.length - i ≤ m → i ≤ s.length → l.length ≤ i →
    LoopRuns rcTurn 28 [0,3,4] [] [3] [] [.str s, .own 0 0 l.length v false, .int .i64 (i : Nat)] [] [.arr 1 (l.map ichRow) v] (.exit 0) [.own 0 0 (l ++ chL m (s.drop i)).length (v + (chL m (s.drop i)).length) false] [] [.arr 1 ((l ++ chL m (s.drop i)).map ichRow) (v + (chL m (s.drop i)).length)] := by
  have out : ∀ (m i : Nat) (l : List Int) (v : Nat), s.length ≤ i → LoopRuns rcTurn 28 [0,3,4] [] [3] [] [.str s, .own 0 0 l.length v false, .int .i64 (i : Nat)] [] [.arr 1 (l.map ichRow) v] (.exit 0) [.own 0 0 (l ++ chL m (s.drop i)).length (v + (chL m (s.drop i)).length) false] [] [.arr 1 ((l ++ chL m (s.drop i)).map ichRow) (v + (chL m (s.drop i)).length)] := fun m i l v hi => by
    rw [List.drop_eq_nil_of_le hi, chL_nil, List.append_nil]
    refine .stop (by simp) (fun D k => (rc_s1 _ rdP s i l.length v (l.map ichRow) D k).trans ?_)
    simp only [dF (show ¬ (i : Int) < s.length by omega), cond_false]
    rfl
  intro m
  induction m with
  | zero => intro i l v hm hi hl; exact out 0 i l v (by omega)
  | succ m ih =>
    intro i l v hm hi hl
    by_cases hlt : i < s.length
    case neg => exact out (m + 1) i l v (by omega)
    have hne : s.drop i ≠ [] := by
      intro e
      have := congrArg List.length e
      rw [List.length_drop] at this
      simp at this
      omega
    have hdl : (s.drop i).length = s.length - i := List.length_drop
    have hw := rdP_w (s.drop i) hne
    have et : List.drop i (List.take s.length s) = s.drop i := by rw [List.take_length]
    have e2 : IntKind.i64.wrap ((i : Int) + (((rdP (s.drop i)).2 : Nat) : Int)) = ((i + (rdP (s.drop i)).2 : Nat) : Int) := by rw [wrap_of (by omega) (by omega)]; omega
    have hq : (l.length == (l.map ichRow).length) = true := by simp
    have key := fun D k => rc_s1 (fun s => chL s.length s) rdP s i l.length v (l.map ichRow) D k
    simp only [Int.toNat_natCast, et, e2, hq, beq_self_eq_true, dT (show (i : Int) < s.length by omega), dT (show (0 : Int) ≤ i by omega), dT (show (i : Int) ≤ s.length by omega), dT (show (s.length : Int) ≤ s.length by omega), dT (show (s.drop i).length ≤ 1099511627776 by omega), dT (show (2 * (l.length + 1) + 1000) * 8 ≤ 281474976710656 by omega), Bool.and_self, cond_true, h_row] at key
    rw [chL_cons m _ hne, List.drop_drop]
    by_cases hc : (rdP (s.drop i)).1 ≤ 0
    · simp only [dT hc, cond_true] at key
      rw [if_pos hc]
      have ih2 := ih (i + (rdP (s.drop i)).2) (l ++ [65533]) (v + 1) (by omega) (by omega) (by rw [List.length_append, List.length_singleton]; omega)
      rw [List.append_assoc, List.singleton_append] at ih2
      rw [List.length_append, List.length_singleton] at ih2
      rw [List.length_cons, show v + ((chL m (List.drop (i + (rdP (List.drop i s)).2) s)).length + 1) = v + 1 + (chL m (List.drop (i + (rdP (List.drop i s)).2) s)).length by omega]
      exact .step key ih2
    · simp only [dF hc, cond_false] at key
      rw [if_neg hc]
      have ih2 := ih (i + (rdP (s.drop i)).2) (l ++ [(rdP (s.drop i)).1]) (v + 1) (by omega) (by omega) (by rw [List.length_append, List.length_singleton]; omega)
      rw [List.append_assoc, List.singleton_append] at ih2
      rw [List.length_append, List.length_singleton] at ih2
      rw [List.length_cons, show v + ((chL m (List.drop (i + (rdP (List.drop i s)).2) s)).length + 1) = v + 1 + (chL m (List.drop (i + (rdP (List.drop i s)).2) s)).length by omega]
      exact .step key ih2
theorem rcSp_ok : SpOK rcTurn 28 [0,3,4] [] [3] [] (rcSp (fun s => chL s.length s)) := mkL_ok fun a h => by
  obtain ⟨s, i⟩ := a
  obtain ⟨h1, h2⟩ := h
  simp only at h1 h2
  subst h1
  show ∃ e vs bs H', (∀ k : AExit → List AVal → List (List AVal) → Heap → Ans, cond (s == []) _ _ = k e vs bs H') ∧ _
  by_cases hs0 : s = []
  · subst hs0
    exact ⟨_, _, _, _, fun k => rfl, .stop (by simp) (fun D k => (rc_s0 _ rdP [] 0 D k).trans rfl)⟩
  · have hb : (s == []) = false := by simpa using hs0
    have hl : 0 < s.length := List.length_pos_iff.2 hs0
    have hw := rdP_w s hs0
    rw [hb]
    refine ⟨_, _, _, _, fun k => rfl, ?_⟩
    have et : List.drop (Int.toNat 0) (List.take s.length s) = s := by rw [List.take_length]; rfl
    have e2 : IntKind.i64.wrap ((0 : Int) + (((rdP s).2 : Nat) : Int)) = (((rdP s).2 : Nat) : Int) := by rw [wrap_of (by omega) (by omega)]; omega
    have key := fun D k => rc_s0 (fun s => chL s.length s) rdP s 0 D k
    simp only [Int.toNat_natCast, et, e2, Nat.zero_add, dT (show (0 : Int) < s.length by omega), dT (show (0 : Int) ≤ 0 by omega), dT (show (0 : Int) ≤ s.length by omega), dT (show (s.length : Int) ≤ s.length by omega), dT (show s.length ≤ 1099511627776 by omega), Bool.and_self, cond_true] at key
    have e3 : chL s.length s = (if (rdP s).1 ≤ 0 then 65533 else (rdP s).1) :: chL (s.length - 1) (s.drop (rdP s).2) := by
      obtain ⟨m, hm⟩ : ∃ m, s.length = m + 1 := ⟨s.length - 1, by omega⟩
      rw [hm, chL_cons m s hs0, Nat.add_sub_cancel]
    show LoopRuns _ _ _ _ _ _ _ _ _ _ [.own 0 0 (chL s.length s).length ((chL s.length s).length - 1) false] _ [.arr 1 ((chL s.length s).map ichRow) ((chL s.length s).length - 1)]
    rw [e3]
    by_cases hc : (rdP s).1 ≤ 0
    · simp only [dT hc, cond_true] at key
      rw [if_pos hc]
      have ih := rc_own s (by omega) (s.length - 1) (rdP s).2 [65533] 0 (by omega) (by omega) (by show 1 ≤ _; omega)
      rw [List.singleton_append, Nat.zero_add] at ih
      exact .step key ih
    · simp only [dF hc, cond_false] at key
      rw [if_neg hc]
      have ih := rc_own s (by omega) (s.length - 1) (rdP s).2 [(rdP s).1] 0 (by omega) (by omega) (by show 1 ≤ _; omega)
      rw [List.singleton_append, Nat.zero_add] at ih
      exact .step key ih
theorem layRc_ok : (layRc rdP (fun s => chL s.length s)).OK Tryz.prog := layRc0_ok.loop1 (id := 3) (by kernel_rfl) (by kernel_rfl) (by kernel_rfl) rcSp_ok
def chP (s : List UInt8) : List Int := chL s.length s
theorem sub_ich (l : List Int) : Sub (.list false l.length (fun i => (l.map ichRow).getD i [])) (encL false ichRow 0 l) := by
  refine Sub.list (fun h => h) (fun i hi => ?_)
  have : (l.map ichRow).getD i [] = ichRow (l.getD i 0) := by
    rw [List.getD_eq_getElem?_getD, List.getD_eq_getElem?_getD, List.getElem?_map, List.getElem?_eq_getElem hi]
    rfl
  rw [this]
  exact .refl _
theorem rc_ok (s : List UInt8) (hs : s.length ≤ 1099511627776) : CallOK Tryz.prog 16 [.str s] [] (.ret (encL false ichRow 0 (chP s)) []) := by
  have key := fun k => (rc_fun rdP (fun s => chL s.length s) s k).trans ((congrArg (fun c => cond c _ none) (tst_true ⟨⟨rfl, hs⟩, .refl _, by trivial⟩)).trans (cond_true _ _))
  by_cases h0 : s = []
  · subst h0
    have hc : CallOK Tryz.prog 16 [.str []] [] (.ret (.list true 0 fun (x : Nat) => []) []) := layRc_ok.callF (G := []) rfl key
    exact hc.sub (.refl _) ⟨Sub.list (fun h => by cases h) (fun i hi => by omega), rfl⟩
  · have hb : (s == []) = false := by simpa using h0
    rw [hb] at key
    have hc : CallOK Tryz.prog 16 [.str s] [] (.ret (.own 0 0 (chP s).length ((chP s).length - 1) false) [.arr 1 ((chP s).map ichRow) ((chP s).length - 1)]) := layRc_ok.call key
    have fz : freezeV [.arr 1 ((chP s).map ichRow) ((chP s).length - 1)] 2 (.own 0 0 (chP s).length ((chP s).length - 1) false) = some (.list false (chP s).length (fun i => ((chP s).map ichRow).getD i [])) := by
      refine freezeW (sz := 1) (rows := (chP s).map ichRow) (rows' := (chP s).map ichRow) rfl (by simp) ?_
      rw [List.drop_zero, List.take_of_length_le (by simp)]
      exact freeze_pures _ 0 _ (fun r hr => by
        obtain ⟨a, _, rfl⟩ := List.mem_map.1 hr
        rfl)
    exact (hc.freeze (d := 2) fz).sub (.refl _) ⟨sub_ich (chP s), rfl⟩
theorem rcTold_ok : ∀ xs H k out, rpcTold chP xs H k = some out → ∃ o, CallOK Tryz.prog 16 xs H o ∧ k o = some out := mkFS_ok fun ys xs e h => by
  obtain ⟨s, rfl⟩ : ∃ s, xs = [.str s] := ⟨_, e⟩
  exact ⟨_, fun k => rfl, rc_ok s (of_decide_eq_true h)⟩
end Go.Mu
set_option linter.unusedVariables false
set_option linter.unusedSimpArgs false
set_option maxRecDepth 100000
namespace Go.Mu
open Go Go.Proofs
theorem encX_len (c : Int) : (encX c).length ≤ 4 := by
  unfold encX
  cases badR c with
  | true => simp
  | false =>
    have h := (Lib.runeCells_le c).2
    rw [Lib.runeCells_length] at h
    exact h
theorem rows_of (t : List UInt8) : t.map (fun c => [AVal.int IntKind.u8 (c.toNat : Int)]) = t.map byteRow := rfl
def rrR : RrR := fun l => (l.flatMap encX, l.length - 1)
noncomputable abbrev rrTurn := lturn Tryz.prog (layRr0 chP encX encXE) (rrFH rrR) 19 4 [3,4,5] [] [3] []
theorem rrSp_ok : SpOK rrTurn 29 [3,4,5] [] [3] [] (rrSp rrR) := mkL_ok fun a h => by
  obtain ⟨f, l, i⟩ := a
  obtain ⟨h1, h2, h3⟩ := h
  simp only at h1 h2 h3
  subst h1
  have hl := fun i => flat_len_take encX 4 encX_len l i
  have hx := encX_len
  have hc : ∀ i, i < l.length → 0 ≤ l.getD i 0 ∧ l.getD i 0 ≤ 2147483647 := fun i hi => by
    have := h3 (l.getD i 0) (by rw [List.getD_eq_getElem?_getD, List.getElem?_eq_getElem hi]; exact List.getElem_mem hi)
    omega
  have key := app_runs (turn := rrTurn) (n := 29) (l := [3,4,5]) (m := []) (lx := [3]) (mx := []) (sz := 1) (fun a i => [a, encL f ichRow 0 l, .int .i64 (i : Nat)]) (fun a => [a]) (fun i => ((l.take i).flatMap encX).map byteRow) l.length (e := .exit 0) (by simp)
    (fun h D k => by
      refine (rr_s0 rrR chP encX encXE f l ((0 : Nat) : Int) D k).trans ?_
      have e1 : IntKind.i64.wrap (((0 : Nat) : Int) + 1) = ((1 : Nat) : Int) := wrap_add1 (by omega)
      have hx0 := hx (l.getD 0 0)
      simp only [Int.toNat_natCast, e1, rows_of, List.length_map, take_flat l 0 encX 0 h, List.take_zero, List.flatMap_nil, List.nil_append, Nat.zero_add, dT (show ((0 : Nat) : Int) < l.length by omega), dT (show (0 : Int) ≤ ((0 : Nat) : Int) by omega), dT (hc 0 h), dT (show (2 * (encX (l.getD 0 0)).length + 1000) * 1 ≤ 281474976710656 by omega), Bool.or_true, Bool.and_self, cond_true])
    (fun i h D k => by
      refine (rr_s1 rrR chP encX encXE f l ((i + 1 : Nat) : Int) _ i _ D k).trans ?_
      have e1 : IntKind.i64.wrap (((i + 1 : Nat) : Int) + 1) = ((i + 2 : Nat) : Int) := wrap_add1 (by omega)
      have hx0 := hx (l.getD (i + 1) 0)
      have hi := hl (i + 1)
      simp only [Int.toNat_natCast, e1, rows_of, List.length_map, take_flat l 0 encX (i + 1) h, List.map_append, List.length_append, List.append_eq, beq_self_eq_true, dT (show ((i + 1 : Nat) : Int) < l.length by omega), dT (show (0 : Int) ≤ ((i + 1 : Nat) : Int) by omega), dT (hc (i + 1) h), dT (show (2 * (((l.take (i + 1)).flatMap encX).length + (encX (l.getD (i + 1) 0)).length) + 1000) * 1 ≤ 281474976710656 by omega), Bool.or_true, Bool.and_self, cond_true])
    (fun h D k => by
      refine (rr_s0 rrR chP encX encXE f l ((0 : Nat) : Int) D k).trans ?_
      rw [h]
      rfl)
    (fun i h D k => by
      refine (rr_s1 rrR chP encX encXE f l ((i + 1 : Nat) : Int) _ i _ D k).trans ?_
      simp only [dF (show ¬ ((i + 1 : Nat) : Int) < l.length by omega), cond_false])
  rw [List.take_of_length_le (Nat.le_refl _)] at key
  show ∃ e vs bs H', (∀ k : AExit → List AVal → List (List AVal) → Heap → Ans, cond (l == []) _ _ = k e vs bs H') ∧ _
  cases l with
  | nil => exact ⟨_, _, _, _, fun k => rfl, key⟩
  | cons c l =>
    refine ⟨_, _, _, _, fun k => rfl, ?_⟩
    rw [if_neg (by simp), if_neg (by simp), List.length_map] at key
    exact key
theorem layRr0_ok : (layRr0 chP encX encXE).OK Tryz.prog := (Lay.nil_ok.addF rcTold_ok).addF encrTold_ok
theorem layRr_ok : (layRr chP encX encXE rrR).OK Tryz.prog := layRr0_ok.loop1 (id := 4) (by kernel_rfl) (by kernel_rfl) (by kernel_rfl) rrSp_ok
def rpP (s : List UInt8) : List UInt8 := (chP s).flatMap encX
theorem rdP_ok (s : List UInt8) (h : s ≠ []) : (rdP s).1 ≤ 1114111 ∧ ¬ (55296 ≤ (rdP s).1 ∧ (rdP s).1 ≤ 57343) := by
  have hD := dgo_N s h
  have hs := Lib.decodeN_shape s.length (s.getD 0 0).toNat (s.getD 1 0).toNat (s.getD 2 0).toNat (s.getD 3 0).toNat
  rw [← hD] at hs
  unfold rdP decC
  simp only
  split
  · omega
  · rcases hs with ⟨_, e⟩ | ⟨_, _, _, _, e⟩ | ⟨_, _, _, _, _, _, e⟩ | ⟨_, _, _, _, _, _, _, e⟩ | e
    all_goals (rw [e]; simp only; omega)
theorem chL_ok : ∀ (m : Nat) (s : List UInt8), okCh (chL m s)
  | 0, s => by intro c hc; unfold chL chF at hc; cases hc
  | m + 1, s => by
    by_cases h : s = []
    · subst h; rw [chL_nil]; intro c hc; cases hc
    · rw [chL_cons m s h]
      intro c hc
      rcases List.mem_cons.1 hc with rfl | hc
      · have := rdP_ok s h
        split
        · omega
        · omega
      · exact chL_ok m _ c hc
theorem chP_ok (s : List UInt8) : okCh (chP s) := chL_ok _ s
theorem chP_len (s : List UInt8) : (chP s).length ≤ s.length := chL_len _ s
theorem rpP_len (s : List UInt8) : (rpP s).length ≤ 4 * s.length := by
  have := flat_len encX 4 encX_len (chP s)
  have := chP_len s
  unfold rpP
  omega
theorem rr_ok (s : List UInt8) (hs : s.length ≤ 1099511627776) : CallOK Tryz.prog 19 [.str s] [] (.ret (.str (rpP s)) []) := by
  have hd : ∀ l : List Int, decL (fun (r : List AVal) => intOf (r.getD 0 AVal.undef)) (AVal.list false l.length fun (i : Nat) => ichRow (l.getD i 0)) = l := fun l => decL_encL (fun a => rfl) l
  have hlen := chP_len s
  have key := fun k => rr_fun chP encX encXE rrR s k
  simp only [hd, dT hs, cond_true] at key
  replace key := fun k => (key k).trans ((congrArg (fun c => cond c _ none) (tst_true ⟨⟨rfl, by omega, chP_ok s⟩, .refl _, by trivial⟩)).trans (cond_true _ _))
  cases hb : chP s == [] with
  | true =>
    have h0 : chP s = [] := by simpa using hb
    refine layRr_ok.callF (G := []) rfl (fun k => (key k).trans ?_)
    rw [hb, cond_true]
    show _ = k (.ret (.str ((chP s).flatMap encX)) [])
    rw [h0]; rfl
  | false =>
    refine layRr_ok.callF (G := [.arr 1 ((rpP s).map byteRow) ((chP s).length - 1)]) rfl (fun k => (key k).trans ?_)
    rw [hb, cond_false]
    exact fin_bytes (rpP s) ((chP s).length - 1) _ k
theorem rrTold_ok : ∀ xs H k out, ursTold rpP xs H k = some out → ∃ o, CallOK Tryz.prog 19 xs H o ∧ k o = some out := mkFS_ok fun ys xs e h => by
  obtain ⟨s, rfl⟩ : ∃ s, xs = [.str s] := ⟨_, e⟩
  rw [decide_eq_true_eq] at h
  have h : s.length ≤ 1073741824 := h
  exact ⟨_, fun k => rfl, rr_ok s (by omega)⟩
def escC (c : UInt8) : List UInt8 := bif c == 38 then [38,97,109,112,59] else bif c == 60 then [38,108,116,59] else bif c == 62 then [38,103,116,59] else bif c == 34 then [38,35,51,52,59] else bif c == 39 then [38,35,51,57,59] else bif c == 43 then [38,35,52,51,59] else [c]
theorem escC_len (c : UInt8) : (escC c).length ≤ 5 := by
  unfold escC
  cases c == 38 <;> cases c == 60 <;> cases c == 62 <;> cases c == 34 <;> cases c == 39 <;> cases c == 43 <;> simp
def escT (t : List UInt8) : List UInt8 := t.flatMap escC
def escP (s : List UInt8) : List UInt8 := escT (rpP s)
end Go.Mu
set_option linter.unusedVariables false
set_option linter.unusedSimpArgs false
set_option maxRecDepth 100000
namespace Go.Mu
open Go Go.Proofs
def reR : ReR := fun t => (escT t, t.length - 1)
noncomputable abbrev reTurn := lturn Tryz.prog (layRe0 rpP) (reFH reR) 11 4 [3,4,5] [] [4] []
theorem reSp_ok : SpOK reTurn 49 [3,4,5] [] [4] [] (reSp reR) := mkL_ok fun a h => by
  obtain ⟨l, i⟩ := a
  obtain ⟨h1, h2⟩ := h
  simp only at h1 h2
  subst h1
  have hl := fun i => flat_len_take escC 5 escC_len l i
  have key := app_runs (turn := reTurn) (n := 49) (l := [3,4,5]) (m := []) (lx := [4]) (mx := []) (sz := 1) (fun a i => [.str l, a, .int .i64 (i : Nat)]) (fun a => [a]) (fun i => ((l.take i).flatMap escC).map byteRow) l.length (e := .exit 0) (by simp)
    (fun h D k => by
      refine (re_s0 reR rpP l ((0 : Nat) : Int) D k).trans ?_
      have e1 : IntKind.i64.wrap (((0 : Nat) : Int) + 1) = ((1 : Nat) : Int) := wrap_add1 (by omega)
      have q38 : (((l.getD 0 0).toNat : Int) == 38) = (l.getD 0 0 == 38) := eqc (by decide)
      have q60 : (((l.getD 0 0).toNat : Int) == 60) = (l.getD 0 0 == 60) := eqc (by decide)
      have q62 : (((l.getD 0 0).toNat : Int) == 62) = (l.getD 0 0 == 62) := eqc (by decide)
      have q34 : (((l.getD 0 0).toNat : Int) == 34) = (l.getD 0 0 == 34) := eqc (by decide)
      have q39 : (((l.getD 0 0).toNat : Int) == 39) = (l.getD 0 0 == 39) := eqc (by decide)
      have q43 : (((l.getD 0 0).toNat : Int) == 43) = (l.getD 0 0 == 43) := eqc (by decide)
      simp only [Int.toNat_natCast, e1, q38, q60, q62, q34, q39, q43, take_flat l 0 escC 0 h, List.take_zero, List.flatMap_nil, List.nil_append, dT (show ((0 : Nat) : Int) < l.length by omega), dT (show (0 : Int) ≤ ((0 : Nat) : Int) by omega), Bool.and_self, cond_true]
      generalize l.getD 0 0 = c
      unfold escC
      cases c == 38 <;> cases c == 60 <;> cases c == 62 <;> cases c == 34 <;> cases c == 39 <;> cases c == 43 <;> rfl)
    (fun i h D k => by
      refine (re_s1 reR rpP l ((i + 1 : Nat) : Int) _ i _ D k).trans ?_
      have e1 : IntKind.i64.wrap (((i + 1 : Nat) : Int) + 1) = ((i + 2 : Nat) : Int) := wrap_add1 (by omega)
      have hi := hl (i + 1)
      have q38 : (((l.getD (i + 1) 0).toNat : Int) == 38) = (l.getD (i + 1) 0 == 38) := eqc (by decide)
      have q60 : (((l.getD (i + 1) 0).toNat : Int) == 60) = (l.getD (i + 1) 0 == 60) := eqc (by decide)
      have q62 : (((l.getD (i + 1) 0).toNat : Int) == 62) = (l.getD (i + 1) 0 == 62) := eqc (by decide)
      have q34 : (((l.getD (i + 1) 0).toNat : Int) == 34) = (l.getD (i + 1) 0 == 34) := eqc (by decide)
      have q39 : (((l.getD (i + 1) 0).toNat : Int) == 39) = (l.getD (i + 1) 0 == 39) := eqc (by decide)
      have q43 : (((l.getD (i + 1) 0).toNat : Int) == 43) = (l.getD (i + 1) 0 == 43) := eqc (by decide)
      simp only [Int.toNat_natCast, e1, q38, q60, q62, q34, q39, q43, take_flat l 0 escC (i + 1) h, List.map_append, List.length_append, List.length_map, List.append_eq, beq_self_eq_true, dT (show ((i + 1 : Nat) : Int) < l.length by omega), dT (show (0 : Int) ≤ ((i + 1 : Nat) : Int) by omega), dT (show (2 * (((l.take (i + 1)).flatMap escC).length + 5) + 1000) * 1 ≤ 281474976710656 by omega), dT (show (2 * (((l.take (i + 1)).flatMap escC).length + 4) + 1000) * 1 ≤ 281474976710656 by omega), dT (show (2 * (((l.take (i + 1)).flatMap escC).length + 1) + 1000) * 1 ≤ 281474976710656 by omega), Bool.and_self, cond_true]
      generalize l.getD (i + 1) 0 = c
      unfold escC
      cases c == 38 <;> cases c == 60 <;> cases c == 62 <;> cases c == 34 <;> cases c == 39 <;> cases c == 43 <;> rfl)
    (fun h D k => by
      refine (re_s0 reR rpP l ((0 : Nat) : Int) D k).trans ?_
      rw [h]
      rfl)
    (fun i h D k => by
      refine (re_s1 reR rpP l ((i + 1 : Nat) : Int) _ i _ D k).trans ?_
      simp only [dF (show ¬ ((i + 1 : Nat) : Int) < l.length by omega), cond_false])
  rw [List.take_of_length_le (Nat.le_refl _)] at key
  show ∃ e vs bs H', (∀ k : AExit → List AVal → List (List AVal) → Heap → Ans, cond (l == []) _ _ = k e vs bs H') ∧ _
  cases l with
  | nil => exact ⟨_, _, _, _, fun k => rfl, key⟩
  | cons c l =>
    refine ⟨_, _, _, _, fun k => rfl, ?_⟩
    rw [if_neg (by simp), if_neg (by simp), List.length_map] at key
    exact key
theorem layRe0_ok : (layRe0 rpP).OK Tryz.prog := Lay.nil_ok.addF rrTold_ok
theorem layRe_ok : (layRe rpP reR).OK Tryz.prog := layRe0_ok.loop1 (id := 4) (by kernel_rfl) (by kernel_rfl) (by kernel_rfl) reSp_ok
theorem re_ok (s : List UInt8) (hs : s.length ≤ 1073741824) : CallOK Tryz.prog 11 [.str s] [] (.ret (.str (escP s)) []) := by
  have hlen := rpP_len s
  have key := fun k => re_fun rpP reR s k
  simp only [dT hs, cond_true] at key
  replace key := fun k => (key k).trans ((congrArg (fun c => cond c _ none) (tst_true ⟨⟨rfl, by show (rpP s).length ≤ _; omega⟩, .refl _, by trivial⟩)).trans (cond_true _ _))
  cases hb : rpP s == [] with
  | true =>
    have h0 : rpP s = [] := by simpa using hb
    refine layRe_ok.callF (G := []) rfl (fun k => (key k).trans ?_)
    rw [hb, cond_true]
    show _ = k (.ret (.str (escT (rpP s))) [])
    rw [h0]; rfl
  | false =>
    refine layRe_ok.callF (G := [.arr 1 ((escP s).map byteRow) ((rpP s).length - 1)]) rfl (fun k => (key k).trans ?_)
    rw [hb, cond_false]
    exact fin_bytes (escP s) ((rpP s).length - 1) _ k
end Go.Mu
set_option linter.unusedVariables false
set_option linter.unusedSimpArgs false
set_option maxRecDepth 100000
namespace Go.Proofs
open Go.RowKit Go.Maps Go.Shelf
attribute [local go_sem] Oper.semAt_some
end Go.Proofs
set_option linter.unusedVariables false
set_option linter.unusedSimpArgs false
set_option maxRecDepth 100000
namespace Go.Mu
open Go Go.Proofs

structure ArgD where
  kind : Int
  name : List UInt8
  pf : Bool
  path : List (List UInt8)
  int : Int
  text : List UInt8
end Go.Mu
set_option linter.unusedVariables false
set_option linter.unusedSimpArgs false
set_option maxRecDepth 100000
namespace Go.Mu
open Go Go.Proofs
structure VaD where
  kind : Int
  int : Int
  text : List UInt8
  lf : Bool
  ln : Nat
  lr : Nat → List AVal
  kf : Bool
  keys : List (List UInt8)
end Go.Mu
set_option linter.unusedVariables false
set_option linter.unusedSimpArgs false
set_option maxRecDepth 100000
namespace Go.Mu
open Go Go.Proofs
structure b1H where
  P0 : Obj
  x : Bld
end Go.Mu
set_option linter.unusedVariables false
set_option linter.unusedSimpArgs false
set_option maxRecDepth 100000
namespace Go.Mu
open Go Go.Proofs
structure PrA where
  n : Int
  at_ : Nat
  u : Nat
  t : List UInt8
end Go.Mu





set_option linter.unusedVariables false
set_option linter.unusedSimpArgs false
set_option maxRecDepth 100000
namespace Go.Mu
open Go Go.Proofs
structure RuA where
  s : List UInt8
  at_ : Nat
  hex : Bool
  n : Nat
  H : Heap
structure UqA where
  s : List UInt8
  n : Int
  i : Nat
  H : Heap
structure NqA where
  s : List UInt8
  b : Int
  n : Int
  i : Nat
  H : Heap
structure OqA where
  s : List UInt8
  i : Nat
  H : Heap
end Go.Mu


set_option linter.unusedVariables false
set_option linter.unusedSimpArgs false
set_option maxRecDepth 100000
namespace Go.Mu
open Go Go.Proofs
theorem rhex2_fun (n : Int) (k : Out → Ans) : iFun Tryz.prog (Lay.nil.hd Tryz.prog) Lay.nil.fhs 9 18 [.int .i64 n, .int .i64 2] [] k = (
 let c0 : Bool := !(IntKind.u64.wrap n == IntKind.u64.wrap n && false);
 let n1 : Int := IntKind.i64.wrap ((IntKind.u64.wrap n).tmod 16);
 let n2 : Int := IntKind.i64.wrap (n1 + 1);
 let l3 : List UInt8 :=
  List.drop n1.toNat (List.take n2.toNat [48, 49, 50, 51, 52, 53, 54, 55, 56, 57, 97, 98, 99, 100, 101, 102]);
 let n4 : Int := IntKind.u64.wrap ((IntKind.u64.wrap n).tdiv 16);
 let c5 : Bool := !(n4 == n4 && false);
 let n6 : Int := IntKind.i64.wrap (n4.tmod 16);
 let n7 : Int := IntKind.i64.wrap (n6 + 1);
 let l8 : List UInt8 :=
  List.drop n6.toNat (List.take n7.toNat [48, 49, 50, 51, 52, 53, 54, 55, 56, 57, 97, 98, 99, 100, 101, 102]);
 let l9 : List UInt8 := l3.append [];
  bif c0 then
  bif decide (0 ≤ n1) && decide (n1 ≤ n2) && decide (n2 ≤ 16) then
  bif decide (l3.length + 0 ≤ 4611686018427387904) then
  bif c0 then
  bif c5 then
  bif decide (0 ≤ n6) && decide (n6 ≤ n7) && decide (n7 ≤ 16) then
  bif decide (l8.length + l9.length ≤ 4611686018427387904) then
  bif c5 then k (Out.ret (AVal.str (l8.append l9)) []) else none
  else none
  else none
  else none
  else none
  else none
  else none
  else none) := by kernel_rfl
theorem rhex4_fun (n : Int) (k : Out → Ans) : iFun Tryz.prog (Lay.nil.hd Tryz.prog) Lay.nil.fhs 9 18 [.int .i64 n, .int .i64 4] [] k = (
 let c0 : Bool := !(IntKind.u64.wrap n == IntKind.u64.wrap n && false);
 let n1 : Int := IntKind.i64.wrap ((IntKind.u64.wrap n).tmod 16);
 let n2 : Int := IntKind.i64.wrap (n1 + 1);
 let l3 : List UInt8 :=
  List.drop n1.toNat (List.take n2.toNat [48, 49, 50, 51, 52, 53, 54, 55, 56, 57, 97, 98, 99, 100, 101, 102]);
 let n4 : Int := IntKind.u64.wrap ((IntKind.u64.wrap n).tdiv 16);
 let c5 : Bool := !(n4 == n4 && false);
 let n6 : Int := IntKind.i64.wrap (n4.tmod 16);
 let n7 : Int := IntKind.i64.wrap (n6 + 1);
 let l8 : List UInt8 :=
  List.drop n6.toNat (List.take n7.toNat [48, 49, 50, 51, 52, 53, 54, 55, 56, 57, 97, 98, 99, 100, 101, 102]);
 let l9 : List UInt8 := l3.append [];
 let n10 : Int := IntKind.u64.wrap (n4.tdiv 16);
 let c11 : Bool := !(n10 == n10 && false);
 let n12 : Int := IntKind.i64.wrap (n10.tmod 16);
 let n13 : Int := IntKind.i64.wrap (n12 + 1);
 let l14 : List UInt8 :=
  List.drop n12.toNat (List.take n13.toNat [48, 49, 50, 51, 52, 53, 54, 55, 56, 57, 97, 98, 99, 100, 101, 102]);
 let l15 : List UInt8 := l8.append l9;
 let n16 : Int := IntKind.u64.wrap (n10.tdiv 16);
 let c17 : Bool := !(n16 == n16 && false);
 let n18 : Int := IntKind.i64.wrap (n16.tmod 16);
 let n19 : Int := IntKind.i64.wrap (n18 + 1);
 let l20 : List UInt8 :=
  List.drop n18.toNat (List.take n19.toNat [48, 49, 50, 51, 52, 53, 54, 55, 56, 57, 97, 98, 99, 100, 101, 102]);
 let l21 : List UInt8 := l14.append l15;
  bif c0 then
  bif decide (0 ≤ n1) && decide (n1 ≤ n2) && decide (n2 ≤ 16) then
  bif decide (l3.length + 0 ≤ 4611686018427387904) then
  bif c0 then
  bif c5 then
  bif decide (0 ≤ n6) && decide (n6 ≤ n7) && decide (n7 ≤ 16) then
  bif decide (l8.length + l9.length ≤ 4611686018427387904) then
  bif c5 then
  bif c11 then
  bif decide (0 ≤ n12) && decide (n12 ≤ n13) && decide (n13 ≤ 16) then
  bif decide (l14.length + l15.length ≤ 4611686018427387904) then
  bif c11 then
  bif c17 then
  bif decide (0 ≤ n18) && decide (n18 ≤ n19) && decide (n19 ≤ 16) then
  bif decide (l20.length + l21.length ≤ 4611686018427387904) then
  bif c17 then k (Out.ret (AVal.str (l20.append l21)) []) else none
  else none
  else none
  else none
  else none
  else none
  else none
  else none
  else none
  else none
  else none
  else none
  else none
  else none
  else none
  else none) := by kernel_rfl
noncomputable def layUr : Lay := (Lay.nil.addF 30 (octTold rLtr)).addF 31 (octTold rDgt)
theorem bare_fun (n : Int) (k : Out → Ans) : iFun Tryz.prog (layUr.hd Tryz.prog) layUr.fhs 0 17 [.int .i64 n] [] k = (
  k
  (Out.ret
  (AVal.bool
  (bif bif decide (n < 128) then decide (n ≥ 0) else false then
  bif
  bif
  bif bif bif rLtr (IntKind.u8.wrap n) then true else rDgt (IntKind.u8.wrap n) then true else n == 32 then
  true
  else n == 95 then
  true
  else n == 46 then
  true
  else n == 44
  else false))
      [])) := by kernel_rfl
def hxTold (X : Int → Int → List UInt8) : FSp := mkFS [.i .i64, .i .i64] (fun xs => decide (0 ≤ aI xs 0 ∧ (aI xs 1 = 2 ∧ aI xs 0 ≤ 255 ∨ aI xs 1 = 4 ∧ aI xs 0 ≤ 65535))) (fun xs k => k (.ret (.str (X (aI xs 0) (aI xs 1))) []))
def bareTold (B : Int → Bool) : FSp := mkFS [.i .i64] (fun xs => true) (fun xs k => k (.ret (.bool (B (aI xs 0))) []))
noncomputable def layIn0 (X : Int → Int → List UInt8) (B : Int → Bool) (C : List UInt8 → List Int) : Lay := ((Lay.nil.addF 18 (hxTold X)).addF 17 (bareTold B)).addF 16 (rpcTold C)
def okCh2 (l : List Int) : Prop := ∀ c ∈ l, 0 ≤ c ∧ c ≤ 1114111
noncomputable def inSp (I : List Int → List UInt8) : LSp := mkL (fun vs _ H => (aS vs 0, decL (fun r => intOf (r.getD 0 .undef)) (vs.getD 1 .undef), (aI vs 2).toNat, fullOf (vs.getD 1 .undef))) (fun x => x.1.length = 0 ∧ x.2.2.1 = 0 ∧ x.2.1.length ≤ 1099511627776 ∧ okCh2 x.2.1) (fun x => [.str x.1, encL x.2.2.2 ichRow 0 x.2.1, .int .i64 x.2.2.1]) (fun _ => []) (fun _ => [])
  (fun x k => k (.exit 0) [.str (I x.2.1)] [] [])
noncomputable def inFH (I : List Int → List UInt8) : FH := .of [(4, loopSpec 53 [3,4,5] [] [3] [] (inSp I))]
theorem in_step (X : Int → Int → List UInt8) (B : Int → Bool) (C : List UInt8 → List Int) (I : List Int → List UInt8) (t : List UInt8) (f : Bool) (l : List Int) (i : Int) (D : List (FuncId × List AVal)) (k : Kont) : lturn Tryz.prog (layIn0 X B C) (inFH I) 9 4 [3,4,5] [] [3] [] (stL 53 [3,4,5] [.str t, encL f ichRow 0 l, .int .i64 i] [] [] [] D) k = (
 let c0 : Bool := decide (i < (↑l.length : Int));
 let n1 : Int := l.getD i.toNat 0;
 let c2 : Bool := decide (t.length + 2 ≤ 4611686018427387904);
 let n3 : Int := IntKind.i64.wrap (n1 - 65536);
 let c4 : Bool := !(n3 == n3 && false);
 let n5 : Int := IntKind.i64.wrap (55296 + IntKind.i64.wrap (n3.tdiv 1024));
 let l6 : List UInt8 := t.append [92, 117];
 let m7 : Nat := l6.length;
 let l8 : List UInt8 := X n5 4;
 let l9 : List UInt8 := l6.append l8;
 let n10 : Int := IntKind.i64.wrap (56320 + n3.tmod 1024);
 let l11 : List UInt8 := l9.append [92, 117];
 let l12 : List UInt8 := X n10 4;
 let l13 : List UInt8 := X n1 4;
  bif c0 then
  bif decide (0 ≤ i) && c0 then
  bif B n1 then
  bif decide (t.length + 1 ≤ 4611686018427387904) then
  k AExit.normal
  (stL 53 [3, 4, 5]
  [AVal.str (t.append [byteOf [AVal.int IntKind.u8 (IntKind.u8.wrap n1)]]),
  AVal.list f l.length fun (i : Nat) => ichRow (l.getD i 0),
  AVal.int IntKind.i64 (IntKind.i64.wrap (i + 1))]
  [] [] [] D)
  else none
  else
  bif decide (n1 ≥ 65536) then
  bif c2 then
  bif c4 then
  bif decide (0 ≤ n5 ∧ ((4 : Int) = 2 ∧ n5 ≤ 255 ∨ (4 : Int) = 4 ∧ n5 ≤ 65535)) then
  bif decide (m7 + l8.length ≤ 4611686018427387904) then
  bif decide (l9.length + 2 ≤ 4611686018427387904) then
  bif c4 then
  bif decide (0 ≤ n10 ∧ ((4 : Int) = 2 ∧ n10 ≤ 255 ∨ (4 : Int) = 4 ∧ n10 ≤ 65535)) then
  bif decide (l11.length + l12.length ≤ 4611686018427387904) then
  k AExit.normal
  (stL 53 [3, 4, 5]
  [AVal.str (l11.append l12), AVal.list f l.length fun (i : Nat) => ichRow (l.getD i 0),
  AVal.int IntKind.i64 (IntKind.i64.wrap (i + 1))]
  [] [] [] D)
  else none
  else none
  else none
  else none
  else none
  else none
  else none
  else none
  else
  bif c2 then
  bif decide (0 ≤ n1 ∧ ((4 : Int) = 2 ∧ n1 ≤ 255 ∨ (4 : Int) = 4 ∧ n1 ≤ 65535)) then
  bif decide (m7 + l13.length ≤ 4611686018427387904) then
  k AExit.normal
  (stL 53 [3, 4, 5]
  [AVal.str (l6.append l13), AVal.list f l.length fun (i : Nat) => ichRow (l.getD i 0),
  AVal.int IntKind.i64 (IntKind.i64.wrap (i + 1))]
  [] [] [] D)
  else none
  else none
  else none
  else none
  else k (AExit.exit 0) (stL 53 [3] [AVal.str t] [] [] [] D)) := by kernel_rfl
noncomputable def layIn (X : Int → Int → List UInt8) (B : Int → Bool) (C : List UInt8 → List Int) (I : List Int → List UInt8) : Lay := (layIn0 X B C).addL 9 (inFH I)
theorem in_fun (X : Int → Int → List UInt8) (B : Int → Bool) (C : List UInt8 → List Int) (I : List Int → List UInt8) (s : List UInt8) (k : Out → Ans) : iFun Tryz.prog ((layIn X B C I).hd Tryz.prog) (layIn X B C I).fhs 0 9 [.str s] [] k = (
 let m0 : Nat :=
  (decL (fun (r : List AVal) => intOf (r.getD 0 AVal.undef))
  (AVal.list false (C s).length fun (i : Nat) => ichRow ((C s).getD i 0))).length;
  bif decide (s.length ≤ 1099511627776) then
  bif
  tst
  ((0 = 0 ∧
  Int.toNat 0 = 0 ∧
  m0 ≤ 1099511627776 ∧
  okCh2
  (decL (fun (r : List AVal) => intOf (r.getD 0 AVal.undef))
  (AVal.list false (C s).length fun (i : Nat) => ichRow ((C s).getD i 0)))) ∧
  SubTL
  [AVal.str [], AVal.list false (C s).length fun (i : Nat) => ichRow ((C s).getD i 0),
  AVal.int IntKind.i64 0]
  [AVal.str [],
  AVal.list false m0 fun (i : Nat) =>
  ichRow
  ((decL (fun (r : List AVal) => intOf (r.getD 0 AVal.undef))
  (AVal.list false (C s).length fun (i : Nat) => ichRow ((C s).getD i 0))).getD
  i 0),
  AVal.int IntKind.i64 (↑(Int.toNat 0) : Int)] ∧
  ([] : List (List AVal)) = [] ∧ ([] : Heap) = []) then
  k
  (Out.ret
  (AVal.str
  (I
  (decL (fun (r : List AVal) => intOf (r.getD 0 AVal.undef))
  (AVal.list false (C s).length fun (i : Nat) => ichRow ((C s).getD i 0)))))
  [])
  else none
  else none) := by kernel_rfl
end Go.Mu

set_option linter.unusedVariables false
set_option linter.unusedSimpArgs false
set_option maxRecDepth 100000
namespace Go.Mu
open Go Go.Proofs
def hxd (d : Nat) : UInt8 := ([48, 49, 50, 51, 52, 53, 54, 55, 56, 57, 97, 98, 99, 100, 101, 102] : List UInt8).getD d 0
def hexB (n size : Int) : List UInt8 := if size = 2 then [hxd (n.toNat / 16 % 16), hxd (n.toNat % 16)] else [hxd (n.toNat / 4096 % 16), hxd (n.toNat / 256 % 16), hxd (n.toNat / 16 % 16), hxd (n.toNat % 16)]
theorem hexB_len (n size : Int) : (hexB n size).length ≤ 4 := by
  unfold hexB
  split <;> simp
theorem dig1 (m : Nat) (h : m < 16) : List.drop m (List.take (m + 1) ([48, 49, 50, 51, 52, 53, 54, 55, 56, 57, 97, 98, 99, 100, 101, 102] : List UInt8)) = [hxd m] := by
  have key : ∀ m : Fin 16, List.drop m.val (List.take (m.val + 1) ([48, 49, 50, 51, 52, 53, 54, 55, 56, 57, 97, 98, 99, 100, 101, 102] : List UInt8)) = [hxd m.val] := by decide
  exact key ⟨m, h⟩
theorem u64_of {m : Nat} (h : m ≤ 65535) : IntKind.u64.wrap (m : Int) = (m : Int) := by
  have e : ∀ x : Int, IntKind.u64.wrap x = x % 18446744073709551616 := fun x => by simp [IntKind.wrap, IntKind.signed, IntKind.bits]
  rw [e]; omega
theorem tdiv_of (m c : Nat) : ((m : Int)).tdiv (c : Int) = ((m / c : Nat) : Int) := rfl
theorem tmod_of (m c : Nat) : ((m : Int)).tmod (c : Int) = ((m % c : Nat) : Int) := rfl
theorem hx_step (m : Nat) (h : m ≤ 65535) : IntKind.i64.wrap (((m : Int)).tmod 16) = ((m % 16 : Nat) : Int) ∧ IntKind.i64.wrap (((m % 16 : Nat) : Int) + 1) = ((m % 16 + 1 : Nat) : Int) ∧ IntKind.u64.wrap (((m : Int)).tdiv 16) = ((m / 16 : Nat) : Int) := by
  refine ⟨?_, wrap_add1 (by omega), ?_⟩
  · rw [show ((m : Int)).tmod 16 = ((m % 16 : Nat) : Int) from tmod_of m 16, wrap_of (by omega) (by omega)]
  · rw [show ((m : Int)).tdiv 16 = ((m / 16 : Nat) : Int) from tdiv_of m 16, u64_of (by omega)]
theorem hxTold_ok : ∀ xs H k out, hxTold hexB xs H k = some out → ∃ o, CallOK Tryz.prog 18 xs H o ∧ k o = some out := mkFS_ok fun ys xs e h => by
  obtain ⟨n, z, rfl⟩ : ∃ n z, xs = [.int .i64 n, .int .i64 z] := ⟨_, _, e⟩
  have h2 : 0 ≤ n ∧ (z = 2 ∧ n ≤ 255 ∨ z = 4 ∧ n ≤ 65535) := of_decide_eq_true h
  obtain ⟨m, rfl⟩ : ∃ m : Nat, n = m := ⟨n.toNat, by omega⟩
  have hm : m ≤ 65535 := by omega
  obtain ⟨a1, a2, a3⟩ := hx_step m hm
  obtain ⟨b1, b2, b3⟩ := hx_step (m / 16) (by omega)
  obtain ⟨c1, c2, c3⟩ := hx_step (m / 16 / 16) (by omega)
  obtain ⟨d1, d2, d3⟩ := hx_step (m / 16 / 16 / 16) (by omega)
  have u := u64_of hm
  have g : ∀ q : Nat, (decide ((0 : Int) ≤ ((q % 16 : Nat) : Int)) && decide (((q % 16 : Nat) : Int) ≤ ((q % 16 + 1 : Nat) : Int)) && decide (((q % 16 + 1 : Nat) : Int) ≤ 16)) = true := fun q => by rw [dT (by omega), dT (by omega), dT (by omega)]; rfl
  have s := fun q : Nat => dig1 (q % 16) (by omega)
  rcases h2.2 with ⟨rfl, _⟩ | ⟨rfl, _⟩
  · refine ⟨_, fun k => rfl, Lay.nil_ok.callN (G := []) 9 rfl (fun k => (rhex2_fun m k).trans ?_)⟩
    simp only [u, a1, a2, a3, b1, b2, Bool.and_false, Bool.not_false, cond_true, g, Int.toNat_natCast, s]
    rfl
  · refine ⟨_, fun k => rfl, Lay.nil_ok.callN (G := []) 9 rfl (fun k => (rhex4_fun m k).trans ?_)⟩
    simp only [u, a1, a2, a3, b1, b2, b3, c1, c2, c3, d1, d2, d3, Bool.and_false, Bool.not_false, cond_true, g, Int.toNat_natCast, s]
    show k (.ret (.str [hxd (m / 16 / 16 / 16 % 16), hxd (m / 16 / 16 % 16), hxd (m / 16 % 16), hxd (m % 16)]) []) = _
    rw [show m / 16 / 16 / 16 = m / 4096 by omega, show m / 16 / 16 = m / 256 by omega]
    rfl
def bareM (n : Int) : Bool := bif bif decide (n < 128) then decide (n ≥ 0) else false then bif bif bif bif bif rLtr (IntKind.u8.wrap n) then true else rDgt (IntKind.u8.wrap n) then true else n == 32 then true else n == 95 then true else n == 46 then true else n == 44 else false
theorem layUr_ok : layUr.OK Tryz.prog := (Lay.nil_ok.addF (octTold_ok rLetter_fun)).addF (octTold_ok rDigit_fun)
theorem bareTold_ok : ∀ xs H k out, bareTold bareM xs H k = some out → ∃ o, CallOK Tryz.prog 17 xs H o ∧ k o = some out := mkFS_ok fun ys xs e h => by
  obtain ⟨n, rfl⟩ : ∃ n, xs = [.int .i64 n] := ⟨_, e⟩
  exact ⟨_, fun k => rfl, layUr_ok.callF (G := []) rfl (fun k => bare_fun n k)⟩
def inBy (c : Int) : List UInt8 := if bareM c = true then [byteOf [.int .u8 (IntKind.u8.wrap c)]] else if c ≥ 65536 then [92, 117] ++ hexB (55296 + (c - 65536) / 1024) 4 ++ [92, 117] ++ hexB (56320 + (c - 65536) % 1024) 4 else [92, 117] ++ hexB c 4
theorem inBy_len (c : Int) : (inBy c).length ≤ 12 := by
  have h1 := hexB_len (55296 + (c - 65536) / 1024) 4
  have h2 := hexB_len (56320 + (c - 65536) % 1024) 4
  have h3 := hexB_len c 4
  unfold inBy
  split
  · simp
  split
  · simp only [List.length_append, List.length_cons, List.length_nil]; omega
  · simp only [List.length_append, List.length_cons, List.length_nil]; omega
def inT (l : List Int) : List UInt8 := l.flatMap inBy
noncomputable abbrev inTurn := lturn Tryz.prog (layIn0 hexB bareM chP) (inFH inT) 9 4 [3,4,5] [] [3] []
theorem in_rd (t : List UInt8) (ht : t.length ≤ 1000000000000000) (f : Bool) (l : List Int) (hl : l.length ≤ 1099511627776) (i : Nat) (hi : i < l.length) (hc : 0 ≤ l.getD i 0 ∧ l.getD i 0 ≤ 1114111) (D : List (FuncId × List AVal)) (k : Kont) :
    inTurn (stL 53 [3,4,5] [.str t, encL f ichRow 0 l, .int .i64 (i : Nat)] [] [] [] D) k = k .normal (stL 53 [3,4,5] [.str (t ++ inBy (l.getD i 0)), encL f ichRow 0 l, .int .i64 ((i + 1 : Nat) : Int)] [] [] [] D) := by
  refine (in_step hexB bareM chP inT t f l i D k).trans ?_
  have e1 : IntKind.i64.wrap ((i : Int) + 1) = ((i + 1 : Nat) : Int) := wrap_add1 (by omega)
  simp only [e1, Int.toNat_natCast, Bool.and_false, Bool.not_false, dT (show (i : Int) < l.length by omega), dT (show (0 : Int) ≤ (i : Int) by omega), dT (show t.length + 2 ≤ 4611686018427387904 by omega), Bool.and_self, cond_true]
  unfold inBy
  cases hb : bareM (l.getD i 0) with
  | true =>
    rw [if_pos rfl]
    exact (congrArg (fun b => cond b _ none) (dT (show t.length + 1 ≤ 4611686018427387904 by omega))).trans rfl
  | false =>
    rw [cond_false, if_neg (by simp)]
    by_cases h6 : (l.getD i 0) ≥ 65536
    · rw [if_pos h6]
      have w3 : IntKind.i64.wrap ((l.getD i 0) - 65536) = (l.getD i 0) - 65536 := wrap_of (by omega) (by omega)
      have td : ((l.getD i 0) - 65536).tdiv 1024 = ((l.getD i 0) - 65536) / 1024 := Int.tdiv_eq_ediv_of_nonneg (by omega)
      have tm : ((l.getD i 0) - 65536).tmod 1024 = ((l.getD i 0) - 65536) % 1024 := Int.tmod_eq_emod_of_nonneg (by omega)
      have w5 : IntKind.i64.wrap (55296 + IntKind.i64.wrap (((l.getD i 0) - 65536) / 1024)) = 55296 + ((l.getD i 0) - 65536) / 1024 := by rw [wrap_of (n := ((l.getD i 0) - 65536) / 1024) (by omega) (by omega), wrap_of (by omega) (by omega)]
      have w10 : IntKind.i64.wrap (56320 + ((l.getD i 0) - 65536) % 1024) = 56320 + ((l.getD i 0) - 65536) % 1024 := wrap_of (by omega) (by omega)
      have h1 := hexB_len (55296 + ((l.getD i 0) - 65536) / 1024) 4
      have h2 := hexB_len (56320 + ((l.getD i 0) - 65536) % 1024) 4
      simp only [w3, td, tm, w5, w10, dT h6, cond_true]
      refine (congrArg (fun b => cond b _ none) (dT ⟨by omega, .inr ⟨by trivial, by omega⟩⟩)).trans ((cond_true _ _).trans ?_)
      refine (congrArg (fun b => cond b _ none) (dT (by simp only [List.append_eq, List.length_append, List.length_cons, List.length_nil]; omega))).trans ((cond_true _ _).trans ?_)
      refine (congrArg (fun b => cond b _ none) (dT (by simp only [List.append_eq, List.length_append, List.length_cons, List.length_nil]; omega))).trans ((cond_true _ _).trans ?_)
      refine (congrArg (fun b => cond b _ none) (dT ⟨by omega, .inr ⟨by trivial, by omega⟩⟩)).trans ((cond_true _ _).trans ?_)
      refine (congrArg (fun b => cond b _ none) (dT (by simp only [List.append_eq, List.length_append, List.length_cons, List.length_nil]; omega))).trans ((cond_true _ _).trans ?_)
      simp only [List.append_eq, List.append_assoc]
    · rw [if_neg h6, dF h6, cond_false]
      have h3 := hexB_len (l.getD i 0) 4
      refine (congrArg (fun b => cond b _ none) (dT ⟨by omega, .inr ⟨by trivial, by omega⟩⟩)).trans ((cond_true _ _).trans ?_)
      refine (congrArg (fun b => cond b _ none) (dT (by simp only [List.append_eq, List.length_append, List.length_cons, List.length_nil]; omega))).trans ((cond_true _ _).trans ?_)
      simp only [List.append_eq, List.append_assoc]
theorem inSp_ok : SpOK inTurn 53 [3,4,5] [] [3] [] (inSp inT) := mkL_ok fun a h => by
  obtain ⟨t, l, i, f⟩ := a
  obtain ⟨h1, h2, h3, h4⟩ := h
  simp only at h1 h2 h3 h4
  subst h2
  obtain rfl : t = [] := List.eq_nil_of_length_eq_zero h1
  refine ⟨_, _, _, _, fun k => rfl, ?_⟩
  have key := seq_runs (turn := inTurn) (n := 53) (l := [3,4,5]) (m := []) (lx := [3]) (mx := []) (fun i => [.str ((l.take i).flatMap inBy), encL f ichRow 0 l, .int .i64 (i : Nat)]) (fun _ => []) (fun _ => []) l.length (e := .exit 0) (by simp)
    (fun i hi D k => by
      have := flat_len_take inBy 12 inBy_len l i
      refine (in_rd _ (by omega) f l h3 i hi (h4 _ (by rw [List.getD_eq_getElem?_getD, List.getElem?_eq_getElem hi]; exact List.getElem_mem hi)) D k).trans ?_
      rw [take_flat l 0 inBy i hi])
    (fun D k => by
      refine (in_step hexB bareM chP inT _ f l l.length D k).trans ?_
      rw [dF (show ¬ (l.length : Int) < l.length by omega), cond_false])
  rw [List.take_of_length_le (Nat.le_refl _)] at key
  exact key
theorem layIn0_ok : (layIn0 hexB bareM chP).OK Tryz.prog := ((Lay.nil_ok.addF hxTold_ok).addF bareTold_ok).addF rcTold_ok
theorem layIn_ok : (layIn hexB bareM chP inT).OK Tryz.prog := layIn0_ok.loop1 (id := 4) (by kernel_rfl) (by kernel_rfl) (by kernel_rfl) inSp_ok
def inP (s : List UInt8) : List UInt8 := inT (chP s)
theorem in_ok (s : List UInt8) (hs : s.length ≤ 1099511627776) : CallOK Tryz.prog 9 [.str s] [] (.ret (.str (inP s)) []) := by
  have hd : decL (fun (r : List AVal) => intOf (r.getD 0 AVal.undef)) (AVal.list false (chP s).length fun (i : Nat) => ichRow ((chP s).getD i 0)) = chP s := decL_encL (fun a => rfl) (chP s)
  have hlen := chP_len s
  have hk : okCh2 (chP s) := fun c hc => by
    have := chP_ok s c hc
    omega
  have key := fun k => in_fun hexB bareM chP inT s k
  simp only [hd, dT hs, cond_true] at key
  exact layIn_ok.callF (G := []) rfl (fun k => (key k).trans ((congrArg (fun c => cond c _ none) (tst_true ⟨⟨by trivial, by trivial, by omega, hk⟩, .refl _, by trivial⟩)).trans (cond_true _ _)))
end Go.Mu
