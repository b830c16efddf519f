/-
  Lemmas on the given program (part 6).
-/
import Derived.Test.YtlobblkhninckaaGreatDoorFL5
set_option linter.unusedVariables false
set_option linter.unusedSimpArgs false
set_option maxRecDepth 100000
set_option maxHeartbeats 2000000
namespace Go.Mu
open Go Go.Proofs
def fnIs (g : AVal) (n : Nat) : Bool := match g with
 | .func f _ => f == n
 | _ => false
def alOk (Wl : AVal → Prop) (h : b1H) (g l : AVal) : Prop := h.x.can 1 3 ∧ h.x.t.length ≤ 1 ∧ Wl l ∧ (g = .func 81 [] ∨ g = .func 82 [.ptr (.hp 0) 0] ∧ ∃ v : VaD, h.P0 = .var (encVa v) ∧ (v.keys.map (fun k => 16 + 16 * k.length)).sum ≤ 16777216)
abbrev AlE1 := AVal → Bld → Bld
abbrev AlE2 := List AVal → AVal → Bld → Bld
noncomputable def alSp (Wl : AVal → Prop) (E1 : AlE1) (E2 : AlE2) : LSp := mkL (fun vs bs H => (b1H.dec H, vs.getD 1 .undef, vs.getD 2 .undef)) (fun a => alOk Wl a.1 a.2.1 a.2.2) (fun a => [.ptr (.hp 1) 0, a.2.1, canV a.2.2, .int .i64 (lnV a.2.2), .int .i64 0]) (fun _ => []) (fun a => a.1.heap)
 (fun a k => cond (fnIs a.2.1 81) (k (.exit 0) [] [] ({ a.1 with x := E1 a.2.2 a.1.x } : b1H).heap) (k (.exit 0) [] [] ({ a.1 with x := E2 (cellsO a.1.P0) a.2.2 a.1.x } : b1H).heap))
noncomputable def alFH (Wl : AVal → Prop) (E1 : AlE1) (E2 : AlE2) : FH := .of [(1, loopSpec 29 [0,2,8,9,10] [] [] [] (alSp Wl E1 E2))]
noncomputable def pvTold (W : List AVal → Prop) (R : List AVal → List UInt8) : FSp := vrTold W (fun x k => k (.ret (.str (R x)) []))
noncomputable def layAl0 (W : List AVal → Prop) (R : List AVal → List UInt8) : Lay := b1_lay ((Lay.nil.addF 48 (pvTold W R)).addF 39 prTold)
theorem al_step1 (W : List AVal → Prop) (R : List AVal → List UInt8) (Wl : AVal → Prop) (E1 : AlE1) (E2 : AlE2) (P0 : Obj) (x : Bld) (f : Bool) (q : Nat) (g : Nat → VaD) (n i : Int) (D : List (FuncId × List AVal)) (k : Kont) (l0 : List UInt8) (e_l0 : l0 = ((Bld.mk x.ad x.b x.rows x.v).t))
 (m1 : Nat) (e_m1 : m1 = (l0.length))
 (m2 : Nat) (e_m2 : m2 = (wsV l0 [UInt8.ofNat (Int.toNat 32)] x.v))
 (l3 : List UInt8) (e_l3 : l3 = ((Bld.mk (AVal.ptr (Oid.hp 1) 0) (bfB 3 (l0.append [UInt8.ofNat (Int.toNat 32)]) m2)
  (x.rows.append [[AVal.int .u8 (↑(UInt8.ofNat (Int.toNat 32)).toNat : Int)]]) m2).t))
 (c4 : Bool) (e_c4 : c4 = (tst
  (W
   (cellsA
    (AVal.agg
     [AVal.int .i64 (g i.toNat).kind, AVal.int .i64 (g i.toNat).int, AVal.str (g i.toNat).text,
      AVal.list (g i.toNat).lf (g i.toNat).ln (g i.toNat).lr,
      AVal.list (g i.toNat).kf (g i.toNat).keys.length fun (i_1 : Nat) =>
       [AVal.str ((g i.toNat).keys.getD i_1 [])]])) ∧
   SubL
    [AVal.agg
     [AVal.int .i64 (g i.toNat).kind, AVal.int .i64 (g i.toNat).int, AVal.str (g i.toNat).text,
      AVal.list (g i.toNat).lf (g i.toNat).ln (g i.toNat).lr,
      AVal.list (g i.toNat).kf (g i.toNat).keys.length fun (i_1 : Nat) =>
       [AVal.str ((g i.toNat).keys.getD i_1 [])]]]
    [AVal.agg
     (cellsA
      (AVal.agg
       [AVal.int .i64 (g i.toNat).kind, AVal.int .i64 (g i.toNat).int,
        AVal.str (g i.toNat).text, AVal.list (g i.toNat).lf (g i.toNat).ln (g i.toNat).lr,
        AVal.list (g i.toNat).kf (g i.toNat).keys.length fun (i_1 : Nat) =>
         [AVal.str ((g i.toNat).keys.getD i_1 [])]]))] ∧
    ([] : Heap) = [])))
 (m5 : Nat) (e_m5 : m5 = (wsV l3 [] m2))
 (l6 : List UInt8) (e_l6 : l6 = ((Bld.mk (AVal.ptr (Oid.hp 1) 0) (bfB 3 (l3.append []) m5)
  ((x.rows.append [[AVal.int .u8 (↑(UInt8.ofNat (Int.toNat 32)).toNat : Int)]]).append []) m5).t))
 (l7 : List UInt8) (e_l7 : l7 = (R
  (cellsA
   (AVal.agg
    [AVal.int .i64 (g i.toNat).kind, AVal.int .i64 (g i.toNat).int, AVal.str (g i.toNat).text,
     AVal.list (g i.toNat).lf (g i.toNat).ln (g i.toNat).lr,
     AVal.list (g i.toNat).kf (g i.toNat).keys.length fun (i_1 : Nat) =>
      [AVal.str ((g i.toNat).keys.getD i_1 [])]]))))
 (m8 : Nat) (e_m8 : m8 = (l7.length))
 (m9 : Nat) (e_m9 : m9 = (wsV l6 l7 m5))
 (m10 : Nat) (e_m10 : m10 = (wsV l0 [] x.v))
 (l11 : List UInt8) (e_l11 : l11 = ((Bld.mk (AVal.ptr (Oid.hp 1) 0) (bfB 3 (l0.append []) m10) (x.rows.append []) m10).t))
 (m12 : Nat) (e_m12 : m12 = (wsV l11 l7 m10)) : lturn Tryz.prog (layAl0 W R) (alFH Wl E1 E2) 80 1 [0,2,8,9,10] [] [] [] (stL 29 [0,2,8,9,10] [.ptr (.hp 1) 0, .func 81 [], .list f q (fun i => encVa (g i)), .int .i64 n, .int .i64 i] [] [] (b1H.mk P0 x).heap D) k = (
 let z0 := x.rows.append [[AVal.int .u8 (↑(UInt8.ofNat (Int.toNat 32)).toNat : Int)]];
 let z1 := Bld.mk (AVal.ptr (Oid.hp 1) 0) (bfB 3 (l0.append [UInt8.ofNat (Int.toNat 32)]) m2) z0 m2;
 let z2 := Bld.mk (AVal.ptr (Oid.hp 1) 0) (bfB 3 (l0.append []) m10) (x.rows.append []) m10;
 let z3 := Bld.mk (AVal.ptr (Oid.hp 1) 0) (bfB 3 (l3.append []) m5) (z0.append []) m5;
 let z4 := [AVal.ptr (Oid.hp 1) 0, AVal.str []];
 let z5 := [AVal.ptr (Oid.hp 1) 0, AVal.str l7];
 let z6 := Bld.mk x.ad x.b x.rows x.v;
  bif decide (i < n) then bif decide (0 ≤ i) && decide (i < (↑q : Int)) then bif decide (i > 0) then bif tst ((Bld.can 1 3 z6 ∧ m1 ≤ 1073741824) ∧ SubL [AVal.ptr (Oid.hp 1) 0, AVal.int .u8 32] [AVal.ptr (Oid.hp 1) 0, AVal.int .u8 (↑(UInt8.ofNat (Int.toNat 32)).toNat : Int)] ∧ (b1H.mk P0 x).heap = (b1H.mk P0 z6).heap) then bif tst ((Bld.can 1 3 z1 ∧ l3.length + 0 ≤ 1099511627776) ∧ SubL z4 z4 ∧ (b1H.mk P0 z1).heap = (b1H.mk P0 z1).heap) then bif c4 then bif tst ((Bld.can 1 3 z3 ∧ l6.length + m8 ≤ 1099511627776) ∧ SubL z5 z5 ∧ (b1H.mk P0 z3).heap = (b1H.mk P0 z3).heap) then k AExit.normal (stL 29 [0, 2, 8, 9, 10] [AVal.ptr (Oid.hp 1) 0, AVal.func 81 [], AVal.list f q fun (i : Nat) => encVa (g i), AVal.int .i64 n, AVal.int .i64 (IntKind.i64.wrap (i + 1))] [] [] (b1H.mk P0 (Bld.mk (AVal.ptr (Oid.hp 1) 0) (bfB 3 (l6.append l7) m9) ((z0.append []).append (List.map (fun (c : UInt8) => [AVal.int .u8 (↑c.toNat : Int)]) l7)) m9)).heap D) else none else none else none else none else bif tst ((Bld.can 1 3 z6 ∧ m1 + 0 ≤ 1099511627776) ∧ SubL z4 z4 ∧ (b1H.mk P0 x).heap = (b1H.mk P0 z6).heap) then bif c4 then bif tst ((Bld.can 1 3 z2 ∧ l11.length + m8 ≤ 1099511627776) ∧ SubL z5 z5 ∧ (b1H.mk P0 z2).heap = (b1H.mk P0 z2).heap) then k AExit.normal (stL 29 [0, 2, 8, 9, 10] [AVal.ptr (Oid.hp 1) 0, AVal.func 81 [], AVal.list f q fun (i : Nat) => encVa (g i), AVal.int .i64 n, AVal.int .i64 (IntKind.i64.wrap (i + 1))] [] [] (b1H.mk P0 (Bld.mk (AVal.ptr (Oid.hp 1) 0) (bfB 3 (l11.append l7) m12) ((x.rows.append []).append (List.map (fun (c : UInt8) => [AVal.int .u8 (↑c.toNat : Int)]) l7)) m12)).heap D) else none else none else none else none else k (AExit.exit 0) (stL 29 [] [] [] [] (b1H.mk P0 x).heap D)) := by
  subst e_l0 e_m1 e_m2 e_l3 e_c4 e_m5 e_l6 e_l7 e_m8 e_m9 e_m10 e_l11 e_m12
  kernel_rfl
theorem al_step2 (W : List AVal → Prop) (R : List AVal → List UInt8) (Wl : AVal → Prop) (E1 : AlE1) (E2 : AlE2) (v : VaD) (x : Bld) (f : Bool) (q : Nat) (g : Nat → VaD) (n i : Int) (D : List (FuncId × List AVal)) (k : Kont) (c0 : Bool) (e_c0 : c0 = (decide (0 ≤ i)))
 (l1 : List UInt8) (e_l1 : l1 = ((Bld.mk x.ad x.b x.rows x.v).t))
 (m2 : Nat) (e_m2 : m2 = (l1.length))
 (c3 : Bool) (e_c3 : c3 = (decide (i < (↑v.keys.length : Int))))
 (c4 : Bool) (e_c4 : c4 = (c0 && c3))
 (l5 : List UInt8) (e_l5 : l5 = (v.keys.getD i.toNat []))
 (c6 : Bool) (e_c6 : c6 = (decide (l5.length + 1 ≤ 4611686018427387904)))
 (m7 : Nat) (e_m7 : m7 = (wsV l1 [UInt8.ofNat (Int.toNat 32)] x.v))
 (l8 : List UInt8) (e_l8 : l8 = ((Bld.mk (AVal.ptr (Oid.hp 1) 0) (bfB 3 (l1.append [UInt8.ofNat (Int.toNat 32)]) m7)
  (x.rows.append [[AVal.int .u8 (↑(UInt8.ofNat (Int.toNat 32)).toNat : Int)]]) m7).t))
 (m9 : Nat) (e_m9 : m9 = (l8.length))
 (l10 : List UInt8) (e_l10 : l10 = (l5.append [58]))
 (m11 : Nat) (e_m11 : m11 = (l10.length))
 (c12 : Bool) (e_c12 : c12 = (tst
  (W
   (cellsA
    (AVal.agg
     [AVal.int .i64 (g i.toNat).kind, AVal.int .i64 (g i.toNat).int, AVal.str (g i.toNat).text,
      AVal.list (g i.toNat).lf (g i.toNat).ln (g i.toNat).lr,
      AVal.list (g i.toNat).kf (g i.toNat).keys.length fun (i_1 : Nat) =>
       [AVal.str ((g i.toNat).keys.getD i_1 [])]])) ∧
   SubL
    [AVal.agg
     [AVal.int .i64 (g i.toNat).kind, AVal.int .i64 (g i.toNat).int, AVal.str (g i.toNat).text,
      AVal.list (g i.toNat).lf (g i.toNat).ln (g i.toNat).lr,
      AVal.list (g i.toNat).kf (g i.toNat).keys.length fun (i_1 : Nat) =>
       [AVal.str ((g i.toNat).keys.getD i_1 [])]]]
    [AVal.agg
     (cellsA
      (AVal.agg
       [AVal.int .i64 (g i.toNat).kind, AVal.int .i64 (g i.toNat).int,
        AVal.str (g i.toNat).text, AVal.list (g i.toNat).lf (g i.toNat).ln (g i.toNat).lr,
        AVal.list (g i.toNat).kf (g i.toNat).keys.length fun (i_1 : Nat) =>
         [AVal.str ((g i.toNat).keys.getD i_1 [])]]))] ∧
    ([] : Heap) = [])))
 (m13 : Nat) (e_m13 : m13 = (wsV l8 l10 m7))
 (l14 : List UInt8) (e_l14 : l14 = ((Bld.mk (AVal.ptr (Oid.hp 1) 0) (bfB 3 (l8.append l10) m13)
  ((x.rows.append [[AVal.int .u8 (↑(UInt8.ofNat (Int.toNat 32)).toNat : Int)]]).append
    (List.map (fun (c : UInt8) => [AVal.int .u8 (↑c.toNat : Int)]) l10))
  m13).t))
 (l15 : List UInt8) (e_l15 : l15 = (R
  (cellsA
   (AVal.agg
    [AVal.int .i64 (g i.toNat).kind, AVal.int .i64 (g i.toNat).int, AVal.str (g i.toNat).text,
     AVal.list (g i.toNat).lf (g i.toNat).ln (g i.toNat).lr,
     AVal.list (g i.toNat).kf (g i.toNat).keys.length fun (i_1 : Nat) =>
      [AVal.str ((g i.toNat).keys.getD i_1 [])]]))))
 (m16 : Nat) (e_m16 : m16 = (l15.length))
 (m17 : Nat) (e_m17 : m17 = (wsV l14 l15 m13))
 (m18 : Nat) (e_m18 : m18 = (wsV l8 [58] m7))
 (l19 : List UInt8) (e_l19 : l19 = ((Bld.mk (AVal.ptr (Oid.hp 1) 0) (bfB 3 (l8.append [58]) m18)
  ((x.rows.append [[AVal.int .u8 (↑(UInt8.ofNat (Int.toNat 32)).toNat : Int)]]).append
    [[AVal.int .u8 58]])
  m18).t))
 (m20 : Nat) (e_m20 : m20 = (wsV l19 l15 m18))
 (m21 : Nat) (e_m21 : m21 = (wsV l1 l10 x.v))
 (l22 : List UInt8) (e_l22 : l22 = ((Bld.mk (AVal.ptr (Oid.hp 1) 0) (bfB 3 (l1.append l10) m21)
  (x.rows.append (List.map (fun (c : UInt8) => [AVal.int .u8 (↑c.toNat : Int)]) l10)) m21).t))
 (m23 : Nat) (e_m23 : m23 = (wsV l22 l15 m21))
 (m24 : Nat) (e_m24 : m24 = (wsV l1 [58] x.v))
 (l25 : List UInt8) (e_l25 : l25 = ((Bld.mk (AVal.ptr (Oid.hp 1) 0) (bfB 3 (l1.append [58]) m24) (x.rows.append [[AVal.int .u8 58]]) m24).t))
 (m26 : Nat) (e_m26 : m26 = (wsV l25 l15 m24)) : lturn Tryz.prog (layAl0 W R) (alFH Wl E1 E2) 80 1 [0,2,8,9,10] [] [] [] (stL 29 [0,2,8,9,10] [.ptr (.hp 1) 0, .func 82 [.ptr (.hp 0) 0], .list f q (fun i => encVa (g i)), .int .i64 n, .int .i64 i] [] [] (b1H.mk (.var (encVa v)) x).heap D) k = (
 let z0 := x.rows.append [[AVal.int .u8 (↑(UInt8.ofNat (Int.toNat 32)).toNat : Int)]];
 let z1 := Bld.mk (AVal.ptr (Oid.hp 1) 0) (bfB 3 (l1.append [UInt8.ofNat (Int.toNat 32)]) m7) z0 m7;
 let z2 := [AVal.ptr (Oid.hp 1) 0, AVal.str l15];
 let z3 := Bld.mk (AVal.ptr (Oid.hp 1) 0) (bfB 3 (l1.append [58]) m24) (x.rows.append [[AVal.int .u8 58]]) m24;
 let z4 := Bld.mk (AVal.ptr (Oid.hp 1) 0) (bfB 3 (l8.append [58]) m18) (z0.append [[AVal.int .u8 58]]) m18;
 let z5 := Bld.mk x.ad x.b x.rows x.v;
 let z6 := [AVal.ptr (Oid.hp 1) 0, AVal.str [58]];
 let z7 := [AVal.ptr (Oid.hp 1) 0, AVal.str l10];
 let z8 := b1H.mk (Obj.var (encVa v)) z1;
 let z9 := b1H.mk (Obj.var (encVa v)) x;
 let z10 := b1H.mk (Obj.var (encVa v)) z5;
  bif decide (i < n) then bif c0 && decide (i < (↑q : Int)) then bif decide (i > 0) then bif tst ((Bld.can 1 3 z5 ∧ m2 ≤ 1073741824) ∧ SubL [AVal.ptr (Oid.hp 1) 0, AVal.int .u8 32] [AVal.ptr (Oid.hp 1) 0, AVal.int .u8 (↑(UInt8.ofNat (Int.toNat 32)).toNat : Int)] ∧ z9.heap = z10.heap) then bif c3 then bif c4 then bif c6 then bif tst ((Bld.can 1 3 z1 ∧ m9 + m11 ≤ 1099511627776) ∧ SubL z7 z7 ∧ z8.heap = z8.heap) then bif c12 then bif tst ((Bld.can 1 3 (Bld.mk (AVal.ptr (Oid.hp 1) 0) (bfB 3 (l8.append l10) m13) (z0.append (List.map (fun (c : UInt8) => [AVal.int .u8 (↑c.toNat : Int)]) l10)) m13) ∧ l14.length + m16 ≤ 1099511627776) ∧ SubL z2 z2 ∧ (b1H.mk (Obj.var (encVa v)) (Bld.mk (AVal.ptr (Oid.hp 1) 0) (bfB 3 (l8.append l10) m13) (z0.append (List.map (fun (c : UInt8) => [AVal.int .u8 (↑c.toNat : Int)]) l10)) m13)).heap = (b1H.mk (Obj.var (encVa v)) (Bld.mk (AVal.ptr (Oid.hp 1) 0) (bfB 3 (l8.append l10) m13) (z0.append (List.map (fun (c : UInt8) => [AVal.int .u8 (↑c.toNat : Int)]) l10)) m13)).heap) then k AExit.normal (stL 29 [0, 2, 8, 9, 10] [AVal.ptr (Oid.hp 1) 0, AVal.func 82 [AVal.ptr (Oid.hp 0) 0], AVal.list f q fun (i : Nat) => encVa (g i), AVal.int .i64 n, AVal.int .i64 (IntKind.i64.wrap (i + 1))] [] [] (b1H.mk (Obj.var (encVa v)) (Bld.mk (AVal.ptr (Oid.hp 1) 0) (bfB 3 (l14.append l15) m17) ((z0.append (List.map (fun (c : UInt8) => [AVal.int .u8 (↑c.toNat : Int)]) l10)).append (List.map (fun (c : UInt8) => [AVal.int .u8 (↑c.toNat : Int)]) l15)) m17)).heap D) else none else none else none else none else none else bif tst ((Bld.can 1 3 z1 ∧ m9 + 1 ≤ 1099511627776) ∧ SubL z6 z6 ∧ z8.heap = z8.heap) then bif c12 then bif tst ((Bld.can 1 3 z4 ∧ l19.length + m16 ≤ 1099511627776) ∧ SubL z2 z2 ∧ (b1H.mk (Obj.var (encVa v)) z4).heap = (b1H.mk (Obj.var (encVa v)) z4).heap) then k AExit.normal (stL 29 [0, 2, 8, 9, 10] [AVal.ptr (Oid.hp 1) 0, AVal.func 82 [AVal.ptr (Oid.hp 0) 0], AVal.list f q fun (i : Nat) => encVa (g i), AVal.int .i64 n, AVal.int .i64 (IntKind.i64.wrap (i + 1))] [] [] (b1H.mk (Obj.var (encVa v)) (Bld.mk (AVal.ptr (Oid.hp 1) 0) (bfB 3 (l19.append l15) m20) ((z0.append [[AVal.int .u8 58]]).append (List.map (fun (c : UInt8) => [AVal.int .u8 (↑c.toNat : Int)]) l15)) m20)).heap D) else none else none else none else none else bif c3 then bif c4 then bif c6 then bif tst ((Bld.can 1 3 z5 ∧ m2 + m11 ≤ 1099511627776) ∧ SubL z7 z7 ∧ z9.heap = z10.heap) then bif c12 then bif tst ((Bld.can 1 3 (Bld.mk (AVal.ptr (Oid.hp 1) 0) (bfB 3 (l1.append l10) m21) (x.rows.append (List.map (fun (c : UInt8) => [AVal.int .u8 (↑c.toNat : Int)]) l10)) m21) ∧ l22.length + m16 ≤ 1099511627776) ∧ SubL z2 z2 ∧ (b1H.mk (Obj.var (encVa v)) (Bld.mk (AVal.ptr (Oid.hp 1) 0) (bfB 3 (l1.append l10) m21) (x.rows.append (List.map (fun (c : UInt8) => [AVal.int .u8 (↑c.toNat : Int)]) l10)) m21)).heap = (b1H.mk (Obj.var (encVa v)) (Bld.mk (AVal.ptr (Oid.hp 1) 0) (bfB 3 (l1.append l10) m21) (x.rows.append (List.map (fun (c : UInt8) => [AVal.int .u8 (↑c.toNat : Int)]) l10)) m21)).heap) then k AExit.normal (stL 29 [0, 2, 8, 9, 10] [AVal.ptr (Oid.hp 1) 0, AVal.func 82 [AVal.ptr (Oid.hp 0) 0], AVal.list f q fun (i : Nat) => encVa (g i), AVal.int .i64 n, AVal.int .i64 (IntKind.i64.wrap (i + 1))] [] [] (b1H.mk (Obj.var (encVa v)) (Bld.mk (AVal.ptr (Oid.hp 1) 0) (bfB 3 (l22.append l15) m23) ((x.rows.append (List.map (fun (c : UInt8) => [AVal.int .u8 (↑c.toNat : Int)]) l10)).append (List.map (fun (c : UInt8) => [AVal.int .u8 (↑c.toNat : Int)]) l15)) m23)).heap D) else none else none else none else none else none else bif tst ((Bld.can 1 3 z5 ∧ m2 + 1 ≤ 1099511627776) ∧ SubL z6 z6 ∧ z9.heap = z10.heap) then bif c12 then bif tst ((Bld.can 1 3 z3 ∧ l25.length + m16 ≤ 1099511627776) ∧ SubL z2 z2 ∧ (b1H.mk (Obj.var (encVa v)) z3).heap = (b1H.mk (Obj.var (encVa v)) z3).heap) then k AExit.normal (stL 29 [0, 2, 8, 9, 10] [AVal.ptr (Oid.hp 1) 0, AVal.func 82 [AVal.ptr (Oid.hp 0) 0], AVal.list f q fun (i : Nat) => encVa (g i), AVal.int .i64 n, AVal.int .i64 (IntKind.i64.wrap (i + 1))] [] [] (b1H.mk (Obj.var (encVa v)) (Bld.mk (AVal.ptr (Oid.hp 1) 0) (bfB 3 (l25.append l15) m26) ((x.rows.append [[AVal.int .u8 58]]).append (List.map (fun (c : UInt8) => [AVal.int .u8 (↑c.toNat : Int)]) l15)) m26)).heap D) else none else none else none else none else k (AExit.exit 0) (stL 29 [] [] [] [] z9.heap D)) := by
  subst e_c0 e_l1 e_m2 e_c3 e_c4 e_l5 e_c6 e_m7 e_l8 e_m9 e_l10 e_m11 e_c12 e_m13 e_l14 e_l15 e_m16 e_m17 e_m18 e_l19 e_m20 e_m21 e_l22 e_m23 e_m24 e_l25 e_m26
  kernel_rfl
noncomputable def layAl (W : List AVal → Prop) (R : List AVal → List UInt8) (Wl : AVal → Prop) (E1 : AlE1) (E2 : AlE2) : Lay := ((layAl0 W R).addL 80 (alFH Wl E1 E2)).addL 48 { heap := [1, 3], typed := [(3, [(0, bT)])], exact := true }
theorem prv_k0 (W : List AVal → Prop) (R : List AVal → List UInt8) (Wl : AVal → Prop) (E1 : AlE1) (E2 : AlE2) (n : Int) (t : List UInt8) (lf : Bool) (ln : Nat) (lr : Nat → List AVal) (kf : Bool) (ks : List (List UInt8)) (k : Out → Ans) : iFun Tryz.prog ((layAl W R Wl E1 E2).hd Tryz.prog) (layAl W R Wl E1 E2).fhs 0 48 [.agg (encVa ⟨0, n, t, lf, ln, lr, kf, ks⟩)] [] k = (
 k
 (Out.ret (AVal.str [110, 117, 108, 108])
 [Obj.var (encVa (VaD.mk 0 n t lf ln lr kf ks)), Obj.var [AVal.nilptr, AVal.nilX], Obj.note 71 2, Obj.arr 1 [] 0,
  Obj.note 5 0])) := by kernel_rfl
theorem prv_k1 (W : List AVal → Prop) (R : List AVal → List UInt8) (Wl : AVal → Prop) (E1 : AlE1) (E2 : AlE2) (n : Int) (t : List UInt8) (lf : Bool) (ln : Nat) (lr : Nat → List AVal) (kf : Bool) (ks : List (List UInt8)) (k : Out → Ans) : iFun Tryz.prog ((layAl W R Wl E1 E2).hd Tryz.prog) (layAl W R Wl E1 E2).fhs 0 48 [.agg (encVa ⟨1, n, t, lf, ln, lr, kf, ks⟩)] [] k = (
 k
 (Out.ret (AVal.str [102, 97, 108, 115, 101])
 [Obj.var (encVa (VaD.mk 1 n t lf ln lr kf ks)), Obj.var [AVal.nilptr, AVal.nilX], Obj.note 71 2, Obj.arr 1 [] 0,
  Obj.note 5 0])) := by kernel_rfl
theorem prv_k2 (W : List AVal → Prop) (R : List AVal → List UInt8) (Wl : AVal → Prop) (E1 : AlE1) (E2 : AlE2) (n : Int) (t : List UInt8) (lf : Bool) (ln : Nat) (lr : Nat → List AVal) (kf : Bool) (ks : List (List UInt8)) (k : Out → Ans) : iFun Tryz.prog ((layAl W R Wl E1 E2).hd Tryz.prog) (layAl W R Wl E1 E2).fhs 0 48 [.agg (encVa ⟨2, n, t, lf, ln, lr, kf, ks⟩)] [] k = (
 k
 (Out.ret (AVal.str [116, 114, 117, 101])
 [Obj.var (encVa (VaD.mk 2 n t lf ln lr kf ks)), Obj.var [AVal.nilptr, AVal.nilX], Obj.note 71 2, Obj.arr 1 [] 0,
  Obj.note 5 0])) := by kernel_rfl
theorem prv_k3 (W : List AVal → Prop) (R : List AVal → List UInt8) (Wl : AVal → Prop) (E1 : AlE1) (E2 : AlE2) (n : Int) (t : List UInt8) (lf : Bool) (ln : Nat) (lr : Nat → List AVal) (kf : Bool) (ks : List (List UInt8)) (k : Out → Ans) : iFun Tryz.prog ((layAl W R Wl E1 E2).hd Tryz.prog) (layAl W R Wl E1 E2).fhs 0 48 [.agg (encVa ⟨3, n, t, lf, ln, lr, kf, ks⟩)] [] k = (
 bif decide (-9223372036854775808 ≤ n ∧ n ≤ 9223372036854775807) then
 k
 (Out.ret (AVal.str (printM n))
 [Obj.var (encVa (VaD.mk 3 n t lf ln lr kf ks)), Obj.var [AVal.nilptr, AVal.nilX], Obj.note 71 2, Obj.arr 1 [] 0,
 Obj.note 5 0])
 else none) := by kernel_rfl
theorem prv_k4 (W : List AVal → Prop) (R : List AVal → List UInt8) (Wl : AVal → Prop) (E1 : AlE1) (E2 : AlE2) (n : Int) (t : List UInt8) (lf : Bool) (ln : Nat) (lr : Nat → List AVal) (kf : Bool) (ks : List (List UInt8)) (k : Out → Ans) : iFun Tryz.prog ((layAl W R Wl E1 E2).hd Tryz.prog) (layAl W R Wl E1 E2).fhs 0 48 [.agg (encVa ⟨4, n, t, lf, ln, lr, kf, ks⟩)] [] k = (
 k
 (Out.ret (AVal.str t)
 [Obj.var (encVa (VaD.mk 4 n t lf ln lr kf ks)), Obj.var [AVal.nilptr, AVal.nilX], Obj.note 71 2, Obj.arr 1 [] 0,
  Obj.note 5 0])) := by kernel_rfl
theorem prv_k5 (W : List AVal → Prop) (R : List AVal → List UInt8) (Wl : AVal → Prop) (E1 : AlE1) (E2 : AlE2) (n : Int) (t : List UInt8) (lf : Bool) (ln : Nat) (lr : Nat → List AVal) (kf : Bool) (ks : List (List UInt8)) (k : Out → Ans) (m0 : Nat) (e_m0 : m0 = ((E1 (AVal.list lf ln lr)
 (Bld.mk (AVal.ptr (Oid.hp 1) 0)
  (AVal.own 3 0 1 (wsV (Bld.mk AVal.nilptr AVal.nilX [] 0).t [UInt8.ofNat (Int.toNat 91)] 0) false)
  [[AVal.int .u8 (↑(UInt8.ofNat (Int.toNat 91)).toNat : Int)]]
  (wsV (Bld.mk AVal.nilptr AVal.nilX [] 0).t [UInt8.ofNat (Int.toNat 91)] 0))).v))
 (l1 : List UInt8) (e_l1 : l1 = ((Bld.mk
  (E1 (AVal.list lf ln lr)
   (Bld.mk (AVal.ptr (Oid.hp 1) 0)
    (AVal.own 3 0 1 (wsV (Bld.mk AVal.nilptr AVal.nilX [] 0).t [UInt8.ofNat (Int.toNat 91)] 0) false)
    [[AVal.int .u8 (↑(UInt8.ofNat (Int.toNat 91)).toNat : Int)]]
    (wsV (Bld.mk AVal.nilptr AVal.nilX [] 0).t [UInt8.ofNat (Int.toNat 91)] 0))).ad
  (E1 (AVal.list lf ln lr)
   (Bld.mk (AVal.ptr (Oid.hp 1) 0)
    (AVal.own 3 0 1 (wsV (Bld.mk AVal.nilptr AVal.nilX [] 0).t [UInt8.ofNat (Int.toNat 91)] 0) false)
    [[AVal.int .u8 (↑(UInt8.ofNat (Int.toNat 91)).toNat : Int)]]
    (wsV (Bld.mk AVal.nilptr AVal.nilX [] 0).t [UInt8.ofNat (Int.toNat 91)] 0))).b
  (E1 (AVal.list lf ln lr)
   (Bld.mk (AVal.ptr (Oid.hp 1) 0)
    (AVal.own 3 0 1 (wsV (Bld.mk AVal.nilptr AVal.nilX [] 0).t [UInt8.ofNat (Int.toNat 91)] 0) false)
    [[AVal.int .u8 (↑(UInt8.ofNat (Int.toNat 91)).toNat : Int)]]
    (wsV (Bld.mk AVal.nilptr AVal.nilX [] 0).t [UInt8.ofNat (Int.toNat 91)] 0))).rows
  m0).t))
 (m2 : Nat) (e_m2 : m2 = (wsV l1 [UInt8.ofNat (Int.toNat 93)] m0))
 (l3 : List UInt8) (e_l3 : l3 = ((Bld.mk (AVal.ptr (Oid.hp 1) 0) (bfB 3 (l1.append [UInt8.ofNat (Int.toNat 93)]) m2)
  ((E1 (AVal.list lf ln lr)
   (Bld.mk (AVal.ptr (Oid.hp 1) 0)
    (AVal.own 3 0 1 (wsV (Bld.mk AVal.nilptr AVal.nilX [] 0).t [UInt8.ofNat (Int.toNat 91)] 0) false)
    [[AVal.int .u8 (↑(UInt8.ofNat (Int.toNat 91)).toNat : Int)]]
    (wsV (Bld.mk AVal.nilptr AVal.nilX [] 0).t [UInt8.ofNat (Int.toNat 91)] 0))).rows.append
    [[AVal.int .u8 (↑(UInt8.ofNat (Int.toNat 93)).toNat : Int)]])
  m2).t)) : iFun Tryz.prog ((layAl W R Wl E1 E2).hd Tryz.prog) (layAl W R Wl E1 E2).fhs 0 48 [.agg (encVa ⟨5, n, t, lf, ln, lr, kf, ks⟩)] [] k = (
 let z6 := Bld.mk AVal.nilptr AVal.nilX [] 0;
 let z3 := wsV z6.t [UInt8.ofNat (Int.toNat 91)] 0;
 let z5 := (↑(UInt8.ofNat (Int.toNat 91)).toNat : Int);
 let z0 := Bld.mk (AVal.ptr (Oid.hp 1) 0) (AVal.own 3 0 1 z3 false) [[AVal.int .u8 z5]] z3;
 let z4 := E1 (AVal.list lf ln lr) z0;
 let z7 := bfB 3 (l1.append [UInt8.ofNat (Int.toNat 93)]) m2;
 let z1 := Bld.mk (AVal.ptr (Oid.hp 1) 0) z7 (z4.rows.append [[AVal.int .u8 (↑(UInt8.ofNat (Int.toNat 93)).toNat : Int)]]) m2;
 let z2 := Obj.var (encVa (VaD.mk 5 n t lf ln lr kf ks));
 bif tst ((Bld.can 1 3 z6 ∧ 0 ≤ 1073741824) ∧ SubL [AVal.ptr (Oid.hp 1) 0, AVal.int .u8 91] [AVal.ptr (Oid.hp 1) 0, AVal.int .u8 z5] ∧ [Obj.var (encVa (VaD.mk 5 n t lf ln lr kf ks)), Obj.var [AVal.nilptr, AVal.nilX], Obj.note 71 2, Obj.arr 1 [] 0, Obj.note 5 0] = (b1H.mk z2 z6).heap) then bif tst (alOk Wl (b1H.mk z2 z0) (AVal.func 81 []) (AVal.list lf ln lr) ∧ SubTL [AVal.ptr (Oid.hp 1) 0, AVal.func 81 [], AVal.list lf ln lr, AVal.int .i64 (↑ln : Int), AVal.int .i64 0] [AVal.ptr (Oid.hp 1) 0, AVal.func 81 [], canV (AVal.list lf ln lr), AVal.int .i64 (↑(lnV (AVal.list lf ln lr)) : Int), AVal.int .i64 0] ∧ ([] : List (List AVal)) = [] ∧ (b1H.mk z2 (Bld.mk (AVal.ptr (Oid.hp 1) 0) (bfB 3 [UInt8.ofNat (Int.toNat 91)] z3) [[AVal.int .u8 z5]] z3)).heap = (b1H.mk z2 z0).heap) then bif tst ((Bld.can 1 3 (Bld.mk z4.ad z4.b z4.rows m0) ∧ l1.length ≤ 1073741824) ∧ SubL [AVal.ptr (Oid.hp 1) 0, AVal.int .u8 93] [AVal.ptr (Oid.hp 1) 0, AVal.int .u8 (↑(UInt8.ofNat (Int.toNat 93)).toNat : Int)] ∧ (b1H.mk z2 z4).heap = (b1H.mk z2 (Bld.mk z4.ad z4.b z4.rows m0)).heap) then bif tst ((Bld.can 1 3 z1 ∧ l3.length ≤ 1099511627776) ∧ SubL [AVal.ptr (Oid.hp 1) 0] [AVal.ptr (Oid.hp 1) 0] ∧ (b1H.mk z2 z1).heap = (b1H.mk z2 z1).heap) then k (Out.ret (AVal.str l3) (b1H.mk z2 (Bld.mk (AVal.ptr (Oid.hp 1) 0) z7 [] (bif l3 == [] then m2 else m2 + 1))).heap) else none else none else none else none) := by
  subst e_m0 e_l1 e_m2 e_l3
  kernel_rfl
theorem prv_k6 (W : List AVal → Prop) (R : List AVal → List UInt8) (Wl : AVal → Prop) (E1 : AlE1) (E2 : AlE2) (n : Int) (t : List UInt8) (lf : Bool) (ln : Nat) (lr : Nat → List AVal) (kf : Bool) (ks : List (List UInt8)) (k : Out → Ans) (m0 : Nat) (e_m0 : m0 = ((E2
 [AVal.int .i64 6, AVal.int .i64 n, AVal.str t, AVal.list lf ln lr,
  AVal.list kf ks.length fun (i : Nat) => [AVal.str (ks.getD i [])]]
 (AVal.list lf ln lr)
 (Bld.mk (AVal.ptr (Oid.hp 1) 0)
  (AVal.own 3 0 1 (wsV (Bld.mk AVal.nilptr AVal.nilX [] 0).t [UInt8.ofNat (Int.toNat 123)] 0) false)
  [[AVal.int .u8 (↑(UInt8.ofNat (Int.toNat 123)).toNat : Int)]]
  (wsV (Bld.mk AVal.nilptr AVal.nilX [] 0).t [UInt8.ofNat (Int.toNat 123)] 0))).v))
 (l1 : List UInt8) (e_l1 : l1 = ((Bld.mk
  (E2
   [AVal.int .i64 6, AVal.int .i64 n, AVal.str t, AVal.list lf ln lr,
    AVal.list kf ks.length fun (i : Nat) => [AVal.str (ks.getD i [])]]
   (AVal.list lf ln lr)
   (Bld.mk (AVal.ptr (Oid.hp 1) 0)
    (AVal.own 3 0 1 (wsV (Bld.mk AVal.nilptr AVal.nilX [] 0).t [UInt8.ofNat (Int.toNat 123)] 0) false)
    [[AVal.int .u8 (↑(UInt8.ofNat (Int.toNat 123)).toNat : Int)]]
    (wsV (Bld.mk AVal.nilptr AVal.nilX [] 0).t [UInt8.ofNat (Int.toNat 123)] 0))).ad
  (E2
   [AVal.int .i64 6, AVal.int .i64 n, AVal.str t, AVal.list lf ln lr,
    AVal.list kf ks.length fun (i : Nat) => [AVal.str (ks.getD i [])]]
   (AVal.list lf ln lr)
   (Bld.mk (AVal.ptr (Oid.hp 1) 0)
    (AVal.own 3 0 1 (wsV (Bld.mk AVal.nilptr AVal.nilX [] 0).t [UInt8.ofNat (Int.toNat 123)] 0) false)
    [[AVal.int .u8 (↑(UInt8.ofNat (Int.toNat 123)).toNat : Int)]]
    (wsV (Bld.mk AVal.nilptr AVal.nilX [] 0).t [UInt8.ofNat (Int.toNat 123)] 0))).b
  (E2
   [AVal.int .i64 6, AVal.int .i64 n, AVal.str t, AVal.list lf ln lr,
    AVal.list kf ks.length fun (i : Nat) => [AVal.str (ks.getD i [])]]
   (AVal.list lf ln lr)
   (Bld.mk (AVal.ptr (Oid.hp 1) 0)
    (AVal.own 3 0 1 (wsV (Bld.mk AVal.nilptr AVal.nilX [] 0).t [UInt8.ofNat (Int.toNat 123)] 0) false)
    [[AVal.int .u8 (↑(UInt8.ofNat (Int.toNat 123)).toNat : Int)]]
    (wsV (Bld.mk AVal.nilptr AVal.nilX [] 0).t [UInt8.ofNat (Int.toNat 123)] 0))).rows
  m0).t))
 (m2 : Nat) (e_m2 : m2 = (wsV l1 [UInt8.ofNat (Int.toNat 125)] m0))
 (l3 : List UInt8) (e_l3 : l3 = ((Bld.mk (AVal.ptr (Oid.hp 1) 0) (bfB 3 (l1.append [UInt8.ofNat (Int.toNat 125)]) m2)
  ((E2
   [AVal.int .i64 6, AVal.int .i64 n, AVal.str t, AVal.list lf ln lr,
    AVal.list kf ks.length fun (i : Nat) => [AVal.str (ks.getD i [])]]
   (AVal.list lf ln lr)
   (Bld.mk (AVal.ptr (Oid.hp 1) 0)
    (AVal.own 3 0 1 (wsV (Bld.mk AVal.nilptr AVal.nilX [] 0).t [UInt8.ofNat (Int.toNat 123)] 0) false)
    [[AVal.int .u8 (↑(UInt8.ofNat (Int.toNat 123)).toNat : Int)]]
    (wsV (Bld.mk AVal.nilptr AVal.nilX [] 0).t [UInt8.ofNat (Int.toNat 123)] 0))).rows.append
    [[AVal.int .u8 (↑(UInt8.ofNat (Int.toNat 125)).toNat : Int)]])
  m2).t)) : iFun Tryz.prog ((layAl W R Wl E1 E2).hd Tryz.prog) (layAl W R Wl E1 E2).fhs 0 48 [.agg (encVa ⟨6, n, t, lf, ln, lr, kf, ks⟩)] [] k = (
 let z6 := Bld.mk AVal.nilptr AVal.nilX [] 0;
 let z2 := wsV z6.t [UInt8.ofNat (Int.toNat 123)] 0;
 let z5 := (↑(UInt8.ofNat (Int.toNat 123)).toNat : Int);
 let z0 := Bld.mk (AVal.ptr (Oid.hp 1) 0) (AVal.own 3 0 1 z2 false) [[AVal.int .u8 z5]] z2;
 let z1 := Obj.var (encVa (VaD.mk 6 n t lf ln lr kf ks));
 let z3 := bfB 3 (l1.append [UInt8.ofNat (Int.toNat 125)]) m2;
 let z7 := (↑(UInt8.ofNat (Int.toNat 125)).toNat : Int);
 let z4 := [[AVal.int .u8 z7]];
 bif tst ((Bld.can 1 3 z6 ∧ 0 ≤ 1073741824) ∧ SubL [AVal.ptr (Oid.hp 1) 0, AVal.int .u8 123] [AVal.ptr (Oid.hp 1) 0, AVal.int .u8 z5] ∧ [Obj.var (encVa (VaD.mk 6 n t lf ln lr kf ks)), Obj.var [AVal.nilptr, AVal.nilX], Obj.note 71 2, Obj.arr 1 [] 0, Obj.note 5 0] = (b1H.mk z1 z6).heap) then bif tst (alOk Wl (b1H.mk z1 z0) (AVal.func 82 [AVal.ptr (Oid.hp 0) 0]) (AVal.list lf ln lr) ∧ SubTL [AVal.ptr (Oid.hp 1) 0, AVal.func 82 [AVal.ptr (Oid.hp 0) 0], AVal.list lf ln lr, AVal.int .i64 (↑ln : Int), AVal.int .i64 0] [AVal.ptr (Oid.hp 1) 0, AVal.func 82 [AVal.ptr (Oid.hp 0) 0], canV (AVal.list lf ln lr), AVal.int .i64 (↑(lnV (AVal.list lf ln lr)) : Int), AVal.int .i64 0] ∧ ([] : List (List AVal)) = [] ∧ (b1H.mk z1 (Bld.mk (AVal.ptr (Oid.hp 1) 0) (bfB 3 [UInt8.ofNat (Int.toNat 123)] z2) [[AVal.int .u8 z5]] z2)).heap = (b1H.mk z1 z0).heap) then bif tst ((Bld.can 1 3 (Bld.mk (E2 [AVal.int .i64 6, AVal.int .i64 n, AVal.str t, AVal.list lf ln lr, AVal.list kf ks.length fun (i : Nat) => [AVal.str (ks.getD i [])]] (AVal.list lf ln lr) z0).ad (E2 [AVal.int .i64 6, AVal.int .i64 n, AVal.str t, AVal.list lf ln lr, AVal.list kf ks.length fun (i : Nat) => [AVal.str (ks.getD i [])]] (AVal.list lf ln lr) z0).b (E2 [AVal.int .i64 6, AVal.int .i64 n, AVal.str t, AVal.list lf ln lr, AVal.list kf ks.length fun (i : Nat) => [AVal.str (ks.getD i [])]] (AVal.list lf ln lr) z0).rows m0) ∧ l1.length ≤ 1073741824) ∧ SubL [AVal.ptr (Oid.hp 1) 0, AVal.int .u8 125] [AVal.ptr (Oid.hp 1) 0, AVal.int .u8 z7] ∧ (b1H.mk z1 (E2 [AVal.int .i64 6, AVal.int .i64 n, AVal.str t, AVal.list lf ln lr, AVal.list kf ks.length fun (i : Nat) => [AVal.str (ks.getD i [])]] (AVal.list lf ln lr) z0)).heap = (b1H.mk z1 (Bld.mk (E2 [AVal.int .i64 6, AVal.int .i64 n, AVal.str t, AVal.list lf ln lr, AVal.list kf ks.length fun (i : Nat) => [AVal.str (ks.getD i [])]] (AVal.list lf ln lr) z0).ad (E2 [AVal.int .i64 6, AVal.int .i64 n, AVal.str t, AVal.list lf ln lr, AVal.list kf ks.length fun (i : Nat) => [AVal.str (ks.getD i [])]] (AVal.list lf ln lr) z0).b (E2 [AVal.int .i64 6, AVal.int .i64 n, AVal.str t, AVal.list lf ln lr, AVal.list kf ks.length fun (i : Nat) => [AVal.str (ks.getD i [])]] (AVal.list lf ln lr) z0).rows m0)).heap) then bif tst ((Bld.can 1 3 (Bld.mk (AVal.ptr (Oid.hp 1) 0) z3 ((E2 [AVal.int .i64 6, AVal.int .i64 n, AVal.str t, AVal.list lf ln lr, AVal.list kf ks.length fun (i : Nat) => [AVal.str (ks.getD i [])]] (AVal.list lf ln lr) z0).rows.append z4) m2) ∧ l3.length ≤ 1099511627776) ∧ SubL [AVal.ptr (Oid.hp 1) 0] [AVal.ptr (Oid.hp 1) 0] ∧ (b1H.mk z1 (Bld.mk (AVal.ptr (Oid.hp 1) 0) z3 ((E2 [AVal.int .i64 6, AVal.int .i64 n, AVal.str t, AVal.list lf ln lr, AVal.list kf ks.length fun (i : Nat) => [AVal.str (ks.getD i [])]] (AVal.list lf ln lr) z0).rows.append z4) m2)).heap = (b1H.mk z1 (Bld.mk (AVal.ptr (Oid.hp 1) 0) z3 ((E2 [AVal.int .i64 6, AVal.int .i64 n, AVal.str t, AVal.list lf ln lr, AVal.list kf ks.length fun (i : Nat) => [AVal.str (ks.getD i [])]] (AVal.list lf ln lr) z0).rows.append z4) m2)).heap) then k (Out.ret (AVal.str l3) (b1H.mk z1 (Bld.mk (AVal.ptr (Oid.hp 1) 0) z3 [] (bif l3 == [] then m2 else m2 + 1))).heap) else none else none else none else none) := by
  subst e_m0 e_l1 e_m2 e_l3
  kernel_rfl
theorem prv_k7 (W : List AVal → Prop) (R : List AVal → List UInt8) (Wl : AVal → Prop) (E1 : AlE1) (E2 : AlE2) (n : Int) (t : List UInt8) (lf : Bool) (ln : Nat) (lr : Nat → List AVal) (kf : Bool) (ks : List (List UInt8)) (k : Out → Ans) : iFun Tryz.prog ((layAl W R Wl E1 E2).hd Tryz.prog) (layAl W R Wl E1 E2).fhs 0 48 [.agg (encVa ⟨7, n, t, lf, ln, lr, kf, ks⟩)] [] k = (
 k
 (Out.ret (AVal.str t)
 [Obj.var (encVa (VaD.mk 7 n t lf ln lr kf ks)), Obj.var [AVal.nilptr, AVal.nilX], Obj.note 71 2, Obj.arr 1 [] 0,
  Obj.note 5 0])) := by kernel_rfl
theorem prv_k8 (W : List AVal → Prop) (R : List AVal → List UInt8) (Wl : AVal → Prop) (E1 : AlE1) (E2 : AlE2) (n : Int) (t : List UInt8) (lf : Bool) (ln : Nat) (lr : Nat → List AVal) (kf : Bool) (ks : List (List UInt8)) (k : Out → Ans) : iFun Tryz.prog ((layAl W R Wl E1 E2).hd Tryz.prog) (layAl W R Wl E1 E2).fhs 0 48 [.agg (encVa ⟨8, n, t, lf, ln, lr, kf, ks⟩)] [] k = (
 k
 (Out.ret (AVal.str t)
 [Obj.var (encVa (VaD.mk 8 n t lf ln lr kf ks)), Obj.var [AVal.nilptr, AVal.nilX], Obj.note 71 2, Obj.arr 1 [] 0,
  Obj.note 5 0])) := by kernel_rfl
theorem prv_k9 (W : List AVal → Prop) (R : List AVal → List UInt8) (Wl : AVal → Prop) (E1 : AlE1) (E2 : AlE2) (n : Int) (t : List UInt8) (lf : Bool) (ln : Nat) (lr : Nat → List AVal) (kf : Bool) (ks : List (List UInt8)) (k : Out → Ans) : iFun Tryz.prog ((layAl W R Wl E1 E2).hd Tryz.prog) (layAl W R Wl E1 E2).fhs 0 48 [.agg (encVa ⟨9, n, t, lf, ln, lr, kf, ks⟩)] [] k = (
 k
 (Out.ret (AVal.str t)
 [Obj.var (encVa (VaD.mk 9 n t lf ln lr kf ks)), Obj.var [AVal.nilptr, AVal.nilX], Obj.note 71 2, Obj.arr 1 [] 0,
  Obj.note 5 0])) := by kernel_rfl
theorem prv_k10 (W : List AVal → Prop) (R : List AVal → List UInt8) (Wl : AVal → Prop) (E1 : AlE1) (E2 : AlE2) (n : Int) (t : List UInt8) (lf : Bool) (ln : Nat) (lr : Nat → List AVal) (kf : Bool) (ks : List (List UInt8)) (k : Out → Ans) : iFun Tryz.prog ((layAl W R Wl E1 E2).hd Tryz.prog) (layAl W R Wl E1 E2).fhs 0 48 [.agg (encVa ⟨10, n, t, lf, ln, lr, kf, ks⟩)] [] k = (
 k
 (Out.ret (AVal.str t)
 [Obj.var (encVa (VaD.mk 10 n t lf ln lr kf ks)), Obj.var [AVal.nilptr, AVal.nilX], Obj.note 71 2, Obj.arr 1 [] 0,
  Obj.note 5 0])) := by kernel_rfl
theorem prv_k11 (W : List AVal → Prop) (R : List AVal → List UInt8) (Wl : AVal → Prop) (E1 : AlE1) (E2 : AlE2) (n : Int) (t : List UInt8) (lf : Bool) (ln : Nat) (lr : Nat → List AVal) (kf : Bool) (ks : List (List UInt8)) (k : Out → Ans) : iFun Tryz.prog ((layAl W R Wl E1 E2).hd Tryz.prog) (layAl W R Wl E1 E2).fhs 0 48 [.agg (encVa ⟨11, n, t, lf, ln, lr, kf, ks⟩)] [] k = (
 k
 (Out.ret (AVal.str t)
 [Obj.var (encVa (VaD.mk 11 n t lf ln lr kf ks)), Obj.var [AVal.nilptr, AVal.nilX], Obj.note 71 2, Obj.arr 1 [] 0,
  Obj.note 5 0])) := by kernel_rfl
end Go.Mu
namespace Go.Mu
open Go Go.Proofs
def ahK (ks : List (List UInt8)) (i : Nat) : List UInt8 := if i < ks.length then ks.getD i [] ++ [58] else [58]
def alB (A : Nat → List UInt8) (R : VaD → List UInt8) (l : List VaD) (i : Nat) : List (List UInt8) := (if 0 < i then [[32]] else []) ++ [A i, R (l.getD i va0)]
def alT (A : Nat → List UInt8) (R : VaD → List UInt8) (l : List VaD) : List UInt8 := (List.range l.length).flatMap (fun i => (alB A R l i).flatten)
def prV : Nat → VaD → List UInt8
 | 0, _ => []
 | d + 1, v => if v.kind = 0 then [110, 117, 108, 108] else if v.kind = 1 then [102, 97, 108, 115, 101] else if v.kind = 2 then [116, 114, 117, 101] else if v.kind = 3 then printM v.int
  else if v.kind = 5 then [91] ++ alT (fun _ => []) (prV d) (vals v.list) ++ [93] else if v.kind = 6 then [123] ++ alT (ahK v.keys) (prV d) (vals v.list) ++ [125] else v.text
theorem printM_len (n : Int) : (printM n).length ≤ 20 := by
 unfold printM
 have := digsF_len 19 n.natAbs []
 cases decide (n < 0)
 · simp only [cond_false]; simp at this; omega
 · simp only [cond_true, List.length_cons]; simp at this; omega
theorem alB_len (A : Nat → List UInt8) (R : VaD → List UInt8) (l : List VaD) (i : Nat) : (alB A R l i).flatten.length ≤ 1 + (A i).length + (R (l.getD i va0)).length := by
 unfold alB
 by_cases h : 0 < i
 · rw [if_pos h]; simp; omega
 · rw [if_neg h]; simp
theorem take_sum {α : Type} (f : α → Nat) (l : List α) (d : α) (i : Nat) (h : i < l.length) : ((l.take (i + 1)).map f).sum = ((l.take i).map f).sum + f (l.getD i d) := by
 rw [take_map l d f i h, List.sum_append]; simp
theorem take_sum_le {α : Type} (f : α → Nat) : ∀ (l : List α) (i : Nat), ((l.take i).map f).sum ≤ (l.map f).sum
 | [], i => by simp
 | a :: l, 0 => by simp
 | a :: l, i + 1 => by
  have := take_sum_le f l i
  simp only [List.take_succ_cons, List.map_cons, List.sum_cons]
  omega
theorem alT_part (ks : List (List UInt8)) (A : Nat → List UInt8) (R : VaD → List UInt8) (S : VaD → Nat) (hA : ∀ i, (A i).length ≤ (if i < ks.length then (ks.getD i []).length else 0) + 1) (l : List VaD) (hR : ∀ v ∈ l, 4 * (R v).length + 8 ≤ S v) : ∀ i, i ≤ l.length →
 4 * ((List.range i).flatMap (fun i => (alB A R l i).flatten)).length ≤ ((l.take i).map S).sum + ((ks.take i).map (fun k => 16 + 16 * k.length)).sum := by
 intro i
 induction i with
 | zero => intro _; simp
 | succ i ih =>
  intro hi
  have ih := ih (by omega)
  rw [range_flat, List.length_append, take_sum S l va0 i (by omega)]
  have hm : l.getD i va0 ∈ l := by rw [List.getD_eq_getElem?_getD, List.getElem?_eq_getElem (by omega)]; exact List.getElem_mem _
  have h1 := hR _ hm
  have h2 := alB_len A R l i
  have h3 := hA i
  by_cases hk : i < ks.length
  · rw [take_sum (fun k : List UInt8 => 16 + 16 * k.length) ks [] i hk]
    rw [if_pos hk] at h3
    omega
  · rw [if_neg hk] at h3
    rw [List.take_of_length_le (by omega : ks.length ≤ i + 1)]
    rw [List.take_of_length_le (by omega : ks.length ≤ i)] at ih
    omega
theorem ahK_len (ks : List (List UInt8)) (i : Nat) : (ahK ks i).length ≤ (if i < ks.length then (ks.getD i []).length else 0) + 1 := by
 unfold ahK
 split
 · rw [List.length_append]; simp
 · simp
theorem alT_len (ks : List (List UInt8)) (A : Nat → List UInt8) (R : VaD → List UInt8) (S : VaD → Nat) (hA : ∀ i, (A i).length ≤ (if i < ks.length then (ks.getD i []).length else 0) + 1) (l : List VaD) (hR : ∀ v ∈ l, 4 * (R v).length + 8 ≤ S v) :
 4 * (alT A R l).length ≤ (l.map S).sum + (ks.map (fun k => 16 + 16 * k.length)).sum := by
 have h := alT_part ks A R S hA l hR l.length (Nat.le_refl _)
 rw [List.take_of_length_le (Nat.le_refl _)] at h
 have := take_sum_le (fun k : List UInt8 => 16 + 16 * k.length) ks l.length
 unfold alT
 omega
theorem prV_len : ∀ (d : Nat) (v : VaD), 4 * (prV d v).length + 8 ≤ szV d v
 | 0, v => by unfold prV szV; simp
 | d + 1, v => by
  have ih := prV_len d
  have h1 := alT_len [] (fun _ => []) (prV d) (szV d) (fun i => by simp) (vals v.list) (fun v _ => ih v)
  have h2 := alT_len v.keys (ahK v.keys) (prV d) (szV d) (ahK_len v.keys) (vals v.list) (fun v _ => ih v)
  have h3 := printM_len v.int
  unfold prV szV
  simp only [List.map_nil, List.sum_nil] at h1
  repeat' split
  all_goals first
   | (simp only [List.length_cons, List.length_nil]; omega)
   | (simp only [List.length_append, List.length_cons, List.length_nil]; omega)
   | omega
def okKind (v : VaD) : Prop := 0 ≤ v.kind ∧ v.kind ≤ 11
def kdV : Nat → VaD → Prop
 | 0, _ => False
 | d + 1, v => okKind v ∧ ∀ x ∈ vals v.list, kdV d x
def PvD (d : Nat) (x : List AVal) : Prop := WvD d x ∧ kdV d (decVa x)
def PlD (d : Nat) (x : AVal) : Prop := WlD d x ∧ ∀ v ∈ vals x, kdV d v
theorem PvD_enc {d : Nat} {v : VaD} (h : wfVal d v ∧ szV d v ≤ 16777216 ∧ kdV d v) : PvD d (encVa v) := ⟨WvD_enc h.1 h.2.1, by rw [decVa_enc]; exact h.2.2⟩
theorem PlD_mem {d : Nat} {x : AVal} (h : PlD d x) {v : VaD} (hv : v ∈ vals x) : wfVal d v ∧ szV d v ≤ 16777216 ∧ kdV d v := ⟨(WlD_mem h.1 hv).1, (WlD_mem h.1 hv).2, h.2 v hv⟩
def prR (d : Nat) (x : List AVal) : List UInt8 := prV d (decVa x)
theorem prR_enc (d : Nat) (v : VaD) : prR d (encVa v) = prV d v := by unfold prR; rw [decVa_enc]
def aE1 (d : Nat) : AlE1 := fun x b => b.addA 1 3 ((List.range (vals x).length).flatMap (alB (fun _ => []) (prV d) (vals x)))
def aE2 (d : Nat) : AlE2 := fun c x b => b.addA 1 3 ((List.range (vals x).length).flatMap (alB (ahK (decVa c).keys) (prV d) (vals x)))
noncomputable abbrev alTurn (d : Nat) := lturn Tryz.prog (layAl0 (PvD d) (prR d)) (alFH (PlD d) (aE1 d) (aE2 d)) 80 1 [0,2,8,9,10] [] [] []
theorem al_rd1 (d : Nat) (P0 : Obj) (y : Bld) (hy : y.can 1 3) (ht : y.t.length ≤ 1073741824) (f : Bool) (l : List VaD) (hl : l.length ≤ 1099511627776) (i : Nat) (hi : i < l.length) (hW : wfVal d (l.getD i va0) ∧ szV d (l.getD i va0) ≤ 16777216 ∧ kdV d (l.getD i va0)) (D : List (FuncId × List AVal)) (k : Kont) :
 alTurn d (stL 29 [0,2,8,9,10] [.ptr (.hp 1) 0, .func 81 [], encVas f l, .int .i64 l.length, .int .i64 (i : Nat)] [] [] (b1H.mk P0 y).heap D) k = k .normal (stL 29 [0,2,8,9,10] [.ptr (.hp 1) 0, .func 81 [], encVas f l, .int .i64 l.length, .int .i64 ((i + 1 : Nat) : Int)] [] [] (b1H.mk P0 (y.addA 1 3 (alB (fun _ => []) (prV d) l i))).heap D) := by
 have hp := prV_len d (l.getD i va0)
 have a1 : (y.add 1 3 [32]).t.length = y.t.length + 1 := by rw [Bld.add_t, List.length_append]; rfl
 have a2 : ((y.add 1 3 [32]).add 1 3 []).t.length = y.t.length + 1 := by rw [Bld.add_t, List.length_append, a1]; rfl
 have a3 : (y.add 1 3 []).t.length = y.t.length := by rw [Bld.add_t, List.length_append]; rfl
 have ep := prR_enc d (l.getD i va0)
 refine (al_step1 (PvD d) (prR d) (PlD d) (aE1 d) (aE2 d) P0 y f l.length (fun i => l.getD i va0) l.length i D k y.t rfl _ rfl _ rfl (y.add 1 3 [32]).t rfl _ rfl _ rfl ((y.add 1 3 [32]).add 1 3 []).t rfl (prV d (l.getD i va0)) ep.symm _ rfl _ rfl _ rfl (y.add 1 3 []).t rfl _ rfl).trans ?_
 have e1 : IntKind.i64.wrap ((i : Int) + 1) = ((i + 1 : Nat) : Int) := wrap_add1 (by omega)
 simp only [e1, dT (show (i : Int) < l.length by omega), dT (show (0 : Int) ≤ (i : Int) by omega), Bool.and_self, cond_true, Int.toNat_natCast]
 unfold alB
 by_cases h0 : 0 < i
 · rw [dT (show (i : Int) > 0 by omega), cond_true, if_pos h0]
   refine (congrArg (fun c => cond c _ none) (tst_true ⟨⟨hy, by omega⟩, .refl _, by trivial⟩)).trans ((cond_true _ _).trans ?_)
   refine (congrArg (fun c => cond c _ none) (tst_true ⟨⟨Bld.add_can hy [32], by omega⟩, .refl _, by trivial⟩)).trans ((cond_true _ _).trans ?_)
   refine (congrArg (fun c => cond c _ none) (tst_true ⟨PvD_enc hW, .refl _, by trivial⟩)).trans ((cond_true _ _).trans ?_)
   exact (congrArg (fun c => cond c _ none) (tst_true ⟨⟨Bld.add_can (Bld.add_can hy [32]) [], by omega⟩, .refl _, by trivial⟩)).trans rfl
 · rw [dF (show ¬ (i : Int) > 0 by omega), cond_false, if_neg h0]
   refine (congrArg (fun c => cond c _ none) (tst_true ⟨⟨hy, by omega⟩, .refl _, by trivial⟩)).trans ((cond_true _ _).trans ?_)
   refine (congrArg (fun c => cond c _ none) (tst_true ⟨PvD_enc hW, .refl _, by trivial⟩)).trans ((cond_true _ _).trans ?_)
   exact (congrArg (fun c => cond c _ none) (tst_true ⟨⟨Bld.add_can hy [], by omega⟩, .refl _, by trivial⟩)).trans rfl
theorem al_rd2 (d : Nat) (v : VaD) (hk : ∀ i, (v.keys.getD i []).length ≤ 1073741824) (y : Bld) (hy : y.can 1 3) (ht : y.t.length ≤ 1073741824) (f : Bool) (l : List VaD) (hl : l.length ≤ 1099511627776) (i : Nat) (hi : i < l.length) (hW : wfVal d (l.getD i va0) ∧ szV d (l.getD i va0) ≤ 16777216 ∧ kdV d (l.getD i va0)) (D : List (FuncId × List AVal)) (k : Kont) :
 alTurn d (stL 29 [0,2,8,9,10] [.ptr (.hp 1) 0, .func 82 [.ptr (.hp 0) 0], encVas f l, .int .i64 l.length, .int .i64 (i : Nat)] [] [] (b1H.mk (.var (encVa v)) y).heap D) k = k .normal (stL 29 [0,2,8,9,10] [.ptr (.hp 1) 0, .func 82 [.ptr (.hp 0) 0], encVas f l, .int .i64 l.length, .int .i64 ((i + 1 : Nat) : Int)] [] [] (b1H.mk (.var (encVa v)) (y.addA 1 3 (alB (ahK v.keys) (prV d) l i))).heap D) := by
 have hp := prV_len d (l.getD i va0)
 have hki := hk i
 have ek : (v.keys.getD i [] ++ [58]).length = (v.keys.getD i []).length + 1 := by rw [List.length_append]; rfl
 have a1 : (y.add 1 3 [32]).t.length = y.t.length + 1 := by rw [Bld.add_t, List.length_append]; rfl
 have a2 : ((y.add 1 3 [32]).add 1 3 (v.keys.getD i [] ++ [58])).t.length = y.t.length + 1 + ((v.keys.getD i []).length + 1) := by rw [Bld.add_t, List.length_append, a1, ek]
 have a3 : ((y.add 1 3 [32]).add 1 3 [58]).t.length = y.t.length + 1 + 1 := by rw [Bld.add_t, List.length_append, a1]; rfl
 have a4 : (y.add 1 3 (v.keys.getD i [] ++ [58])).t.length = y.t.length + ((v.keys.getD i []).length + 1) := by rw [Bld.add_t, List.length_append, ek]
 have a5 : (y.add 1 3 [58]).t.length = y.t.length + 1 := by rw [Bld.add_t, List.length_append]; rfl
 have ep := prR_enc d (l.getD i va0)
 refine (al_step2 (PvD d) (prR d) (PlD d) (aE1 d) (aE2 d) v y f l.length (fun i => l.getD i va0) l.length i D k _ rfl y.t rfl _ rfl _ rfl _ rfl (v.keys.getD i []) (by rw [Int.toNat_natCast]) _ rfl _ rfl (y.add 1 3 [32]).t rfl _ rfl (v.keys.getD i [] ++ [58]) rfl _ rfl _ rfl _ rfl ((y.add 1 3 [32]).add 1 3 (v.keys.getD i [] ++ [58])).t rfl (prV d (l.getD i va0)) ep.symm _ rfl _ rfl _ rfl ((y.add 1 3 [32]).add 1 3 [58]).t rfl _ rfl _ rfl (y.add 1 3 (v.keys.getD i [] ++ [58])).t rfl _ rfl _ rfl (y.add 1 3 [58]).t rfl _ rfl).trans ?_
 have e1 : IntKind.i64.wrap ((i : Int) + 1) = ((i + 1 : Nat) : Int) := wrap_add1 (by omega)
 simp only [e1, dT (show (i : Int) < l.length by omega), dT (show (0 : Int) ≤ (i : Int) by omega), Bool.and_self, cond_true, Int.toNat_natCast]
 unfold alB ahK
 have c12 := fun (p : Ans) => congrArg (fun c => cond c p none) (tst_true (p := PvD d (encVa (l.getD i va0)) ∧ SubL [.agg (encVa (l.getD i va0))] [.agg (encVa (l.getD i va0))] ∧ ([] : Heap) = []) ⟨PvD_enc hW, .refl _, rfl⟩)
 by_cases hkl : i < v.keys.length
 · simp only [dT (show (i : Int) < v.keys.length by omega), dT (show (v.keys.getD i []).length + 1 ≤ 4611686018427387904 by omega), Bool.and_self, cond_true, if_pos hkl]
   by_cases h0 : 0 < i
   · rw [dT (show (i : Int) > 0 by omega), cond_true, if_pos h0]
     refine (congrArg (fun c => cond c _ none) (tst_true ⟨⟨hy, by omega⟩, .refl _, by trivial⟩)).trans ((cond_true _ _).trans ?_)
     refine (congrArg (fun c => cond c _ none) (tst_true ⟨⟨Bld.add_can hy [32], by omega⟩, .refl _, by trivial⟩)).trans ((cond_true _ _).trans ?_)
     refine (congrArg (fun c => cond c _ none) (tst_true ⟨PvD_enc hW, .refl _, by trivial⟩)).trans ((cond_true _ _).trans ?_)
     exact (congrArg (fun c => cond c _ none) (tst_true ⟨⟨Bld.add_can (Bld.add_can hy [32]) _, by omega⟩, .refl _, by trivial⟩)).trans rfl
   · rw [dF (show ¬ (i : Int) > 0 by omega), cond_false, if_neg h0]
     refine (congrArg (fun c => cond c _ none) (tst_true ⟨⟨hy, by omega⟩, .refl _, by trivial⟩)).trans ((cond_true _ _).trans ?_)
     refine (congrArg (fun c => cond c _ none) (tst_true ⟨PvD_enc hW, .refl _, by trivial⟩)).trans ((cond_true _ _).trans ?_)
     exact (congrArg (fun c => cond c _ none) (tst_true ⟨⟨Bld.add_can hy _, by omega⟩, .refl _, by trivial⟩)).trans rfl
 · simp only [dF (show ¬ (i : Int) < v.keys.length by omega), cond_false, if_neg hkl]
   by_cases h0 : 0 < i
   · rw [dT (show (i : Int) > 0 by omega), cond_true, if_pos h0]
     refine (congrArg (fun c => cond c _ none) (tst_true ⟨⟨hy, by omega⟩, .refl _, by trivial⟩)).trans ((cond_true _ _).trans ?_)
     refine (congrArg (fun c => cond c _ none) (tst_true ⟨⟨Bld.add_can hy [32], by omega⟩, .refl _, by trivial⟩)).trans ((cond_true _ _).trans ?_)
     refine (congrArg (fun c => cond c _ none) (tst_true ⟨PvD_enc hW, .refl _, by trivial⟩)).trans ((cond_true _ _).trans ?_)
     exact (congrArg (fun c => cond c _ none) (tst_true ⟨⟨Bld.add_can (Bld.add_can hy [32]) _, by omega⟩, .refl _, by trivial⟩)).trans rfl
   · rw [dF (show ¬ (i : Int) > 0 by omega), cond_false, if_neg h0]
     refine (congrArg (fun c => cond c _ none) (tst_true ⟨⟨hy, by omega⟩, .refl _, by trivial⟩)).trans ((cond_true _ _).trans ?_)
     refine (congrArg (fun c => cond c _ none) (tst_true ⟨PvD_enc hW, .refl _, by trivial⟩)).trans ((cond_true _ _).trans ?_)
     exact (congrArg (fun c => cond c _ none) (tst_true ⟨⟨Bld.add_can hy _, by omega⟩, .refl _, by trivial⟩)).trans rfl
theorem al_part_len {d : Nat} {x : AVal} (h : WlD d x) (ks : List (List UInt8)) (A : Nat → List UInt8) (hA : ∀ i, (A i).length ≤ (if i < ks.length then (ks.getD i []).length else 0) + 1) (hk : (ks.map (fun k => 16 + 16 * k.length)).sum ≤ 16777216) (b : Bld) (hb : b.t.length ≤ 1) (i : Nat) (hi : i ≤ (vals x).length) :
 (b.addA 1 3 ((List.range i).flatMap (alB A (prV d) (vals x)))).t.length ≤ 1073741824 := by
 have h1 := alT_part ks A (prV d) (szV d) hA (vals x) (fun v _ => prV_len d v) i hi
 have h2 := take_sum_le (szV d) (vals x) i
 have h3 := take_sum_le (fun k : List UInt8 => 16 + 16 * k.length) ks i
 have h4 := h.2.2
 rw [Bld.addA_t, flatMap_flatten, List.length_append]
 omega
theorem alSp_ok (d : Nat) : SpOK (alTurn d) 29 [0,2,8,9,10] [] [] [] (alSp (PlD d) (aE1 d) (aE2 d)) := mkL_ok fun a h => by
 obtain ⟨⟨P0, b⟩, g, x⟩ := a
 obtain ⟨h1, h2, h3, h4⟩ := h
 simp only at h1 h2 h3 h4
 have hl := WlD_len h3.1
 have hW : ∀ i, i < (vals x).length → wfVal d ((vals x).getD i va0) ∧ szV d ((vals x).getD i va0) ≤ 16777216 ∧ kdV d ((vals x).getD i va0) := fun i hi => PlD_mem h3 (by rw [List.getD_eq_getElem?_getD, List.getElem?_eq_getElem hi]; exact List.getElem_mem hi)
 rcases h4 with rfl | ⟨rfl, v, hv, hk⟩
 · refine ⟨.exit 0, [], [], (b1H.mk P0 (aE1 d x b)).heap, fun k => rfl, ?_⟩
   exact seq_runs (turn := alTurn d) (n := 29) (l := [0,2,8,9,10]) (m := []) (lx := []) (mx := []) (fun i => [.ptr (.hp 1) 0, .func 81 [], encVas (fullOf x) (vals x), .int .i64 (vals x).length, .int .i64 (i : Nat)]) (fun _ => []) (fun i => (b1H.mk P0 (b.addA 1 3 ((List.range i).flatMap (alB (fun _ => []) (prV d) (vals x))))).heap) (vals x).length (e := .exit 0) (by simp)
    (fun i hi D k => by
     refine (al_rd1 d P0 _ (Bld.addA_can _ h1) (al_part_len h3.1 [] (fun _ => []) (fun i => by simp) (by simp) b h2 i (by omega)) (fullOf x) (vals x) (by omega) i hi (hW i hi) D k).trans ?_
     rw [range_flat, Bld.addA_app])
    (fun D k => by
     refine (al_step1 (PvD d) (prR d) (PlD d) (aE1 d) (aE2 d) P0 _ (fullOf x) (vals x).length (fun i => (vals x).getD i va0) (vals x).length (vals x).length D k _ rfl _ rfl _ rfl _ rfl _ rfl _ rfl _ rfl _ rfl _ rfl _ rfl _ rfl _ rfl _ rfl).trans ?_
     rw [dF (show ¬ ((vals x).length : Int) < (vals x).length by omega), cond_false]
     rfl)
 · have hv : P0 = .var (encVa v) := hv
   subst hv
   have hki : ∀ i, (v.keys.getD i []).length ≤ 1073741824 := fun i => by
    rw [List.getD_eq_getElem?_getD]
    by_cases hi : i < v.keys.length
    · rw [List.getElem?_eq_getElem hi]
      have := sum_mem (fun k : List UInt8 => 16 + 16 * k.length) v.keys _ (List.getElem_mem hi)
      simp only [Option.getD_some]
      omega
    · rw [List.getElem?_eq_none (by omega)]; simp
   have e2 : aE2 d (cellsO (.var (encVa v))) x b = b.addA 1 3 ((List.range (vals x).length).flatMap (alB (ahK v.keys) (prV d) (vals x))) := by
    unfold aE2 cellsO
    rw [decVa_enc]
   refine ⟨.exit 0, [], [], (b1H.mk (.var (encVa v)) (aE2 d (cellsO (.var (encVa v))) x b)).heap, fun k => rfl, ?_⟩
   rw [e2]
   exact seq_runs (turn := alTurn d) (n := 29) (l := [0,2,8,9,10]) (m := []) (lx := []) (mx := []) (fun i => [.ptr (.hp 1) 0, .func 82 [.ptr (.hp 0) 0], encVas (fullOf x) (vals x), .int .i64 (vals x).length, .int .i64 (i : Nat)]) (fun _ => []) (fun i => (b1H.mk (.var (encVa v)) (b.addA 1 3 ((List.range i).flatMap (alB (ahK v.keys) (prV d) (vals x))))).heap) (vals x).length (e := .exit 0) (by simp)
    (fun i hi D k => by
     refine (al_rd2 d v hki _ (Bld.addA_can _ h1) (al_part_len h3.1 v.keys (ahK v.keys) (ahK_len v.keys) hk b h2 i (by omega)) (fullOf x) (vals x) (by omega) i hi (hW i hi) D k).trans ?_
     rw [range_flat, Bld.addA_app])
    (fun D k => by
     refine (al_step2 (PvD d) (prR d) (PlD d) (aE1 d) (aE2 d) v _ (fullOf x) (vals x).length (fun i => (vals x).getD i va0) (vals x).length (vals x).length D k _ rfl _ rfl _ rfl _ rfl _ rfl _ rfl _ rfl _ rfl _ rfl _ rfl _ rfl _ rfl _ rfl _ rfl _ rfl _ rfl _ rfl _ rfl _ rfl _ rfl _ rfl _ rfl _ rfl _ rfl _ rfl _ rfl _ rfl).trans ?_
     rw [dF (show ¬ ((vals x).length : Int) < (vals x).length by omega), cond_false])
theorem layAl0_ok {d : Nat} (h : ∀ xs H k out, pvTold (PvD d) (prR d) xs H k = some out → ∃ o, CallOK Tryz.prog 48 xs H o ∧ k o = some out) : (layAl0 (PvD d) (prR d)).OK Tryz.prog := b1_ok ((Lay.nil_ok.addF h).addF prTold_ok)
theorem layAl_ok {d : Nat} (h : ∀ xs H k out, pvTold (PvD d) (prR d) xs H k = some out → ∃ o, CallOK Tryz.prog 48 xs H o ∧ k o = some out) : (layAl (PvD d) (prR d) (PlD d) (aE1 d) (aE2 d)).OK Tryz.prog :=
 ((layAl0_ok h).loop1 (id := 1) (by kernel_rfl) (by kernel_rfl) (by kernel_rfl) (alSp_ok d)).addN (by kernel_rfl)
theorem prv_list5 (d : Nat) (hp : ∀ xs H k out, pvTold (PvD d) (prR d) xs H k = some out → ∃ o, CallOK Tryz.prog 48 xs H o ∧ k o = some out) (n : Int) (t : List UInt8) (lf : Bool) (ln : Nat) (lr : Nat → List AVal) (kf : Bool) (ks : List (List UInt8)) (hl : PlD d (.list lf ln lr))  :
 CallOK Tryz.prog 48 [.agg (encVa ⟨5, n, t, lf, ln, lr, kf, ks⟩)] [] (.ret (.str ([91] ++ alT (fun _ => []) (prV d) (vals (.list lf ln lr)) ++ [93])) []) := by
 have c0 : (Bld.new.add 1 3 [91]).can 1 3 := Bld.add_can (Bld.new_can 1 3) [91]
 have c1 : (aE1 d (.list lf ln lr) (Bld.new.add 1 3 [91])).can 1 3 := Bld.addA_can _ c0
 have c2 := Bld.add_can c1 [93]
 have t1 : (aE1 d (.list lf ln lr) (Bld.new.add 1 3 [91])).t = [91] ++ alT (fun _ => []) (prV d) (vals (.list lf ln lr)) := by
  unfold aE1
  rw [Bld.addA_t, flatMap_flatten, Bld.add_t]; rfl
 have t2 : ((aE1 d (.list lf ln lr) (Bld.new.add 1 3 [91])).add 1 3 [93]).t = [91] ++ alT (fun _ => []) (prV d) (vals (.list lf ln lr)) ++ [93] := by rw [Bld.add_t, t1]
 have hlen := alT_len [] (fun _ => []) (prV d) (szV d) (fun i => by simp) (vals (.list lf ln lr)) (fun v _ => prV_len d v)
 have hs := hl.1.2.2
 try simp only [List.map_nil, List.sum_nil] at hlen
 have l1 : (aE1 d (.list lf ln lr) (Bld.new.add 1 3 [91])).t.length ≤ 1073741000 := by rw [t1]; simp; omega
 have l2 : ((aE1 d (.list lf ln lr) (Bld.new.add 1 3 [91])).add 1 3 [93]).t.length ≤ 1073741824 := by rw [Bld.add_t, List.length_append]; simp only [List.length_singleton]; omega
 have e : lnV (AVal.list lf ln lr) = ln := lnV_eq (d := d) hl.1
 have key := fun k => (prv_k5 (PvD d) (prR d) (PlD d) (aE1 d) (aE2 d) n t lf ln lr kf ks k (aE1 d (.list lf ln lr) (Bld.new.add 1 3 [91])).v rfl (aE1 d (.list lf ln lr) (Bld.new.add 1 3 [91])).t rfl _ rfl ((aE1 d (.list lf ln lr) (Bld.new.add 1 3 [91])).add 1 3 [93]).t rfl).trans
  ((congrArg (fun c => cond c _ none) (tst_true ⟨⟨Bld.new_can 1 3, by omega⟩, .refl _, by trivial⟩)).trans ((cond_true _ _).trans
  ((congrArg (fun c => cond c _ none) (tst_true ⟨⟨c0, Nat.le_refl _, hl, .inl rfl⟩, (by rw [e]; exact .cons (.refl _) (.cons (.refl _) (.cons (canV_sub hl.1) (.refl _)))), rfl, rfl⟩)).trans ((cond_true _ _).trans
  ((congrArg (fun c => cond c _ none) (tst_true ⟨⟨c1, by omega⟩, .refl _, by trivial⟩)).trans ((cond_true _ _).trans
  ((congrArg (fun c => cond c _ none) (tst_true ⟨⟨c2, by omega⟩, .refl _, by trivial⟩)).trans (cond_true _ _))))))))
 rw [← t2]
 exact (layAl_ok hp).callF rfl key
theorem prv_list6 (d : Nat) (hp : ∀ xs H k out, pvTold (PvD d) (prR d) xs H k = some out → ∃ o, CallOK Tryz.prog 48 xs H o ∧ k o = some out) (n : Int) (t : List UInt8) (lf : Bool) (ln : Nat) (lr : Nat → List AVal) (kf : Bool) (ks : List (List UInt8)) (hl : PlD d (.list lf ln lr)) (hk : (ks.map (fun k => 16 + 16 * k.length)).sum ≤ 16777216) :
 CallOK Tryz.prog 48 [.agg (encVa ⟨6, n, t, lf, ln, lr, kf, ks⟩)] [] (.ret (.str ([123] ++ alT (ahK ks) (prV d) (vals (.list lf ln lr)) ++ [125])) []) := by
 have c0 : (Bld.new.add 1 3 [123]).can 1 3 := Bld.add_can (Bld.new_can 1 3) [123]
 have e2 : ∀ b, aE2 d (encVa ⟨6, n, t, lf, ln, lr, kf, ks⟩) (.list lf ln lr) b = b.addA 1 3 ((List.range (vals (.list lf ln lr)).length).flatMap (alB (ahK ks) (prV d) (vals (.list lf ln lr)))) := fun b => by
  unfold aE2
  rw [decVa_enc]
 have c1 : (aE2 d (encVa ⟨6, n, t, lf, ln, lr, kf, ks⟩) (.list lf ln lr) (Bld.new.add 1 3 [123])).can 1 3 := by rw [e2]; exact Bld.addA_can _ c0
 have c2 := Bld.add_can c1 [125]
 have t1 : (aE2 d (encVa ⟨6, n, t, lf, ln, lr, kf, ks⟩) (.list lf ln lr) (Bld.new.add 1 3 [123])).t = [123] ++ alT (ahK ks) (prV d) (vals (.list lf ln lr)) := by
  rw [e2]
  rw [Bld.addA_t, flatMap_flatten, Bld.add_t]; rfl
 have t2 : ((aE2 d (encVa ⟨6, n, t, lf, ln, lr, kf, ks⟩) (.list lf ln lr) (Bld.new.add 1 3 [123])).add 1 3 [125]).t = [123] ++ alT (ahK ks) (prV d) (vals (.list lf ln lr)) ++ [125] := by rw [Bld.add_t, t1]
 have hlen := alT_len ks (ahK ks) (prV d) (szV d) (ahK_len ks) (vals (.list lf ln lr)) (fun v _ => prV_len d v)
 have hs := hl.1.2.2
 try simp only [List.map_nil, List.sum_nil] at hlen
 have l1 : (aE2 d (encVa ⟨6, n, t, lf, ln, lr, kf, ks⟩) (.list lf ln lr) (Bld.new.add 1 3 [123])).t.length ≤ 1073741000 := by rw [t1]; simp; omega
 have l2 : ((aE2 d (encVa ⟨6, n, t, lf, ln, lr, kf, ks⟩) (.list lf ln lr) (Bld.new.add 1 3 [123])).add 1 3 [125]).t.length ≤ 1073741824 := by rw [Bld.add_t, List.length_append]; simp only [List.length_singleton]; omega
 have e : lnV (AVal.list lf ln lr) = ln := lnV_eq (d := d) hl.1
 have key := fun k => (prv_k6 (PvD d) (prR d) (PlD d) (aE1 d) (aE2 d) n t lf ln lr kf ks k (aE2 d (encVa ⟨6, n, t, lf, ln, lr, kf, ks⟩) (.list lf ln lr) (Bld.new.add 1 3 [123])).v rfl (aE2 d (encVa ⟨6, n, t, lf, ln, lr, kf, ks⟩) (.list lf ln lr) (Bld.new.add 1 3 [123])).t rfl _ rfl ((aE2 d (encVa ⟨6, n, t, lf, ln, lr, kf, ks⟩) (.list lf ln lr) (Bld.new.add 1 3 [123])).add 1 3 [125]).t rfl).trans
  ((congrArg (fun c => cond c _ none) (tst_true ⟨⟨Bld.new_can 1 3, by omega⟩, .refl _, by trivial⟩)).trans ((cond_true _ _).trans
  ((congrArg (fun c => cond c _ none) (tst_true ⟨⟨c0, Nat.le_refl _, hl, .inr ⟨rfl, _, rfl, hk⟩⟩, (by rw [e]; exact .cons (.refl _) (.cons (.refl _) (.cons (canV_sub hl.1) (.refl _)))), rfl, rfl⟩)).trans ((cond_true _ _).trans
  ((congrArg (fun c => cond c _ none) (tst_true ⟨⟨c1, by omega⟩, .refl _, by trivial⟩)).trans ((cond_true _ _).trans
  ((congrArg (fun c => cond c _ none) (tst_true ⟨⟨c2, by omega⟩, .refl _, by trivial⟩)).trans (cond_true _ _))))))))
 rw [← t2]
 exact (layAl_ok hp).callF rfl key
theorem prv_ok (d : Nat) (hp : ∀ xs H k out, pvTold (PvD d) (prR d) xs H k = some out → ∃ o, CallOK Tryz.prog 48 xs H o ∧ k o = some out) (v : VaD) (hw : wfVal (d + 1) v) (hs : szV (d + 1) v ≤ 16777216) (hkd : kdV (d + 1) v) :
 CallOK Tryz.prog 48 [.agg (encVa v)] [] (.ret (.str (prV (d + 1) v)) []) := by
 have hl : PlD d v.list := ⟨wf_list hw hs, hkd.2⟩
 have hk := hkd.1
 have hks : (v.keys.map (fun k => 16 + 16 * k.length)).sum ≤ 16777216 := by unfold szV at hs; omega
 have hL := layAl_ok hp
 obtain ⟨kd, n, t, lf, ln, lr, kf, ks⟩ := v
 obtain ⟨h1, h2⟩ := hk
 obtain ⟨g1, g2, _⟩ := hw
 simp only at h1 h2 g1 g2
 obtain ⟨m, rfl⟩ : ∃ m : Nat, kd = m := ⟨kd.toNat, by omega⟩
 have hm : m < 12 := by omega
 match m, hm with
 | 0, _ => exact hL.callF rfl (fun k => prv_k0 (PvD d) (prR d) (PlD d) (aE1 d) (aE2 d) n t lf ln lr kf ks k)
 | 1, _ => exact hL.callF rfl (fun k => prv_k1 (PvD d) (prR d) (PlD d) (aE1 d) (aE2 d) n t lf ln lr kf ks k)
 | 2, _ => exact hL.callF rfl (fun k => prv_k2 (PvD d) (prR d) (PlD d) (aE1 d) (aE2 d) n t lf ln lr kf ks k)
 | 3, _ => exact hL.callF rfl (fun k => (prv_k3 (PvD d) (prR d) (PlD d) (aE1 d) (aE2 d) n t lf ln lr kf ks k).trans ((congrArg (fun c => cond c _ none) (dT ⟨g1, g2⟩)).trans (cond_true _ _)))
 | 4, _ => exact hL.callF rfl (fun k => prv_k4 (PvD d) (prR d) (PlD d) (aE1 d) (aE2 d) n t lf ln lr kf ks k)
 | 5, _ => exact prv_list5 d hp n t lf ln lr kf ks hl
 | 6, _ => exact prv_list6 d hp n t lf ln lr kf ks hl hks
 | 7, _ => exact hL.callF rfl (fun k => prv_k7 (PvD d) (prR d) (PlD d) (aE1 d) (aE2 d) n t lf ln lr kf ks k)
 | 8, _ => exact hL.callF rfl (fun k => prv_k8 (PvD d) (prR d) (PlD d) (aE1 d) (aE2 d) n t lf ln lr kf ks k)
 | 9, _ => exact hL.callF rfl (fun k => prv_k9 (PvD d) (prR d) (PlD d) (aE1 d) (aE2 d) n t lf ln lr kf ks k)
 | 10, _ => exact hL.callF rfl (fun k => prv_k10 (PvD d) (prR d) (PlD d) (aE1 d) (aE2 d) n t lf ln lr kf ks k)
 | 11, _ => exact hL.callF rfl (fun k => prv_k11 (PvD d) (prR d) (PlD d) (aE1 d) (aE2 d) n t lf ln lr kf ks k)
theorem pvTold_ok : ∀ (d : Nat) xs H k out, pvTold (PvD d) (prR d) xs H k = some out → ∃ o, CallOK Tryz.prog 48 xs H o ∧ k o = some out
 | 0 => vrTold_ok (ok := PvD 0) (post := fun x k => k (.ret (.str (prR 0 x)) [])) fun x h => absurd h.2 (by unfold kdV; exact id)
 | d + 1 => vrTold_ok (ok := PvD (d + 1)) (post := fun x k => k (.ret (.str (prR (d + 1) x)) [])) fun x h => ⟨_, fun k => rfl, by
  obtain ⟨⟨h1, h2, h3⟩, h4⟩ := h
  have h1 : x = encVa (decVa x) := h1
  have key := prv_ok d (pvTold_ok d) (decVa x) h2 h3 h4
  rw [← h1] at key
  exact key⟩
end Go.Mu
namespace Go.Mu
open Go Go.Proofs
noncomputable def ltTold (W : List AVal → Prop) (R : List AVal → List UInt8) : FSp := vrTold W (fun x k => k (.ret (.str (R x)) []))
abbrev LtR := List AVal → AVal → List (List UInt8)
noncomputable def ltSp (V : List AVal → Prop) (Wl : AVal → Prop) (L : LtR) : LSp := mkL (fun vs bs H => (bs.getD 0 [], vs.getD 2 .undef)) (fun a => V a.1 ∧ Wl a.2) (fun a => [.ptr (.tmp 1) 0, .own 0 0 0 0 false, canV a.2, .int .i64 (lnV a.2), .int .i64 0]) (fun a => [a.1]) (fun _ => [.arr 1 [] 0])
 (fun a k => k (.exit 1) [.ptr (.tmp 1) 0, .own 0 0 (L a.1 a.2).length (L a.1 a.2).length false] [a.1] [.arr 1 ((L a.1 a.2).map encS) (L a.1 a.2).length])
noncomputable def ltFH (V : List AVal → Prop) (Wl : AVal → Prop) (L : LtR) : FH := .of [(11, loopSpec 86 [1,3,58,59,60] [1] [1,3] [1] (ltSp V Wl L))]
noncomputable def layLt0 (W : List AVal → Prop) (R : List AVal → List UInt8) (Q : List UInt8 → List UInt8) : Lay := (((Lay.nil.addF 21 (ltTold W R)).addF 40 (pescTold Q)).addF 42 sJoinTold).addF 39 prTold
theorem lt_step (W : List AVal → Prop) (R : List AVal → List UInt8) (Q : List UInt8 → List UInt8) (V : List AVal → Prop) (Wl : AVal → Prop) (L : LtR) (v : VaD) (c : Nat) (os : List (List UInt8)) (f : Bool) (q : Nat) (g : Nat → VaD) (n i : Int) (D : List (FuncId × List AVal)) (k : Kont) (c0 : Bool) (e_c0 : c0 = (decide (0 ≤ i)))
 (m1 : Nat) (e_m1 : m1 = (v.keys.length))
 (n2 : Int) (e_n2 : n2 = ((↑m1 : Int)))
 (c3 : Bool) (e_c3 : c3 = (tst
  (W
   (cellsA
    (AVal.agg
     [AVal.int .i64 (g i.toNat).kind, AVal.int .i64 (g i.toNat).int, AVal.str (g i.toNat).text,
      AVal.list (g i.toNat).lf (g i.toNat).ln (g i.toNat).lr,
      AVal.list (g i.toNat).kf (g i.toNat).keys.length fun (i_1 : Nat) =>
       [AVal.str ((g i.toNat).keys.getD i_1 [])]])) ∧
   SubL
    [AVal.agg
     [AVal.int .i64 (g i.toNat).kind, AVal.int .i64 (g i.toNat).int, AVal.str (g i.toNat).text,
      AVal.list (g i.toNat).lf (g i.toNat).ln (g i.toNat).lr,
      AVal.list (g i.toNat).kf (g i.toNat).keys.length fun (i_1 : Nat) =>
       [AVal.str ((g i.toNat).keys.getD i_1 [])]]]
    [AVal.agg
     (cellsA
      (AVal.agg
       [AVal.int .i64 (g i.toNat).kind, AVal.int .i64 (g i.toNat).int,
        AVal.str (g i.toNat).text, AVal.list (g i.toNat).lf (g i.toNat).ln (g i.toNat).lr,
        AVal.list (g i.toNat).kf (g i.toNat).keys.length fun (i_1 : Nat) =>
         [AVal.str ((g i.toNat).keys.getD i_1 [])]]))] ∧
    ([] : Heap) = [])))
 (l4 : List UInt8) (e_l4 : l4 = (R
  (cellsA
   (AVal.agg
    [AVal.int .i64 (g i.toNat).kind, AVal.int .i64 (g i.toNat).int, AVal.str (g i.toNat).text,
     AVal.list (g i.toNat).lf (g i.toNat).ln (g i.toNat).lr,
     AVal.list (g i.toNat).kf (g i.toNat).keys.length fun (i_1 : Nat) =>
      [AVal.str ((g i.toNat).keys.getD i_1 [])]]))))
 (m5 : Nat) (e_m5 : m5 = (l4.length))
 (m6 : Nat) (e_m6 : m6 = (c + 1))
 (c7 : Bool) (e_c7 : c7 = (c == c && c == (List.map encS os).length &&
  decide ((2 * m6 + 1000) * 16 ≤ 281474976710656) &&
  true))
 (l8 : List UInt8) (e_l8 : l8 = (v.keys.getD i.toNat []))
 (l9 : List UInt8) (e_l9 : l9 = (Q l8))
 (l10 : List UInt8) (e_l10 : l10 = (l9.append [58])) : lturn Tryz.prog (layLt0 W R Q) (ltFH V Wl L) 21 11 [1,3,58,59,60] [1] [1,3] [1] (stL 86 [1,3,58,59,60] [.ptr (.tmp 1) 0, .own 0 0 c c false, .list f q (fun i => encVa (g i)), .int .i64 n, .int .i64 i] [1] [encVa v] [.arr 1 (os.map encS) c] D) k = (
 bif decide (i < n) then bif c0 && decide (i < (↑q : Int)) then bif bif v.kind != 6 then true else decide (i ≥ n2) then bif c3 then bif decide (0 + m5 ≤ 4611686018427387904) then bif c7 then k AExit.normal (stL 86 [1, 3, 58, 59, 60] [AVal.ptr (Oid.tmp 1) 0, AVal.own 0 0 m6 m6 false, AVal.list f q fun (i : Nat) => encVa (g i), AVal.int .i64 n, AVal.int .i64 (IntKind.i64.wrap (i + 1))] [1] [[AVal.int .i64 v.kind, AVal.int .i64 v.int, AVal.str v.text, AVal.list v.lf v.ln v.lr, AVal.list v.kf m1 fun (i : Nat) => [AVal.str (v.keys.getD i [])]]] [Obj.arr 1 ((List.map encS os).append [[AVal.str l4]]) m6] D) else none else none else none else bif c0 && decide (i < n2) then bif decide (l8.length ≤ 26843545) then bif decide (l9.length + 1 ≤ 4611686018427387904) then bif c3 then bif decide (l10.length + m5 ≤ 4611686018427387904) then bif c7 then k AExit.normal (stL 86 [1, 3, 58, 59, 60] [AVal.ptr (Oid.tmp 1) 0, AVal.own 0 0 m6 m6 false, AVal.list f q fun (i : Nat) => encVa (g i), AVal.int .i64 n, AVal.int .i64 (IntKind.i64.wrap (i + 1))] [1] [[AVal.int .i64 v.kind, AVal.int .i64 v.int, AVal.str v.text, AVal.list v.lf v.ln v.lr, AVal.list v.kf m1 fun (i : Nat) => [AVal.str (v.keys.getD i [])]]] [Obj.arr 1 ((List.map encS os).append [[AVal.str (l10.append l4)]]) m6] D) else none else none else none else none else none else none else none else k (AExit.exit 1) (stL 86 [1, 3] [AVal.ptr (Oid.tmp 1) 0, AVal.own 0 0 c c false] [1] [[AVal.int .i64 v.kind, AVal.int .i64 v.int, AVal.str v.text, AVal.list v.lf v.ln v.lr, AVal.list v.kf m1 fun (i : Nat) => [AVal.str (v.keys.getD i [])]]] [Obj.arr 1 (List.map encS os) c] D)) := by
 subst e_c0 e_m1 e_n2 e_c3 e_l4 e_m5 e_m6 e_c7 e_l8 e_l9 e_l10
 kernel_rfl
noncomputable def layLt (W : List AVal → Prop) (R : List AVal → List UInt8) (Q : List UInt8 → List UInt8) (V : List AVal → Prop) (Wl : AVal → Prop) (L : LtR) : Lay := (layLt0 W R Q).addL 21 (ltFH V Wl L)
theorem lit_fun (W : List AVal → Prop) (R : List AVal → List UInt8) (Q : List UInt8 → List UInt8) (V : List AVal → Prop) (Wl : AVal → Prop) (L : LtR) (v : VaD) (k : Out → Ans) : iFun Tryz.prog ((layLt W R Q V Wl L).hd Tryz.prog) (layLt W R Q V Wl L).fhs 0 21 [.agg (encVa v)] [] k = (
 let c0 : Bool := decide (v.kind < 3);
 let c1 : Bool := v.kind == 3;
 let c2 : Bool := decide (-9223372036854775808 ≤ v.int ∧ v.int ≤ 9223372036854775807);
 let n3 : Int := (↑v.ln : Int);
 let m4 : Nat := (L [AVal.int .i64 v.kind, AVal.int .i64 v.int, AVal.str v.text, AVal.list v.lf v.ln v.lr, AVal.list v.kf v.keys.length fun (i : Nat) => [AVal.str (v.keys.getD i [])]] (AVal.list v.lf v.ln v.lr)).length;
 let m5 : Nat := (decL decS (AVal.list false m4 fun (i : Nat) => (List.map encS (L [AVal.int .i64 v.kind, AVal.int .i64 v.int, AVal.str v.text, AVal.list v.lf v.ln v.lr, AVal.list v.kf v.keys.length fun (i : Nat) => [AVal.str (v.keys.getD i [])]] (AVal.list v.lf v.ln v.lr))).getD (0 + i) [])).length;
 let l6 : List UInt8 := Lib.join (decL decS (AVal.list false m4 fun (i : Nat) => (List.map encS (L [AVal.int .i64 v.kind, AVal.int .i64 v.int, AVal.str v.text, AVal.list v.lf v.ln v.lr, AVal.list v.kf v.keys.length fun (i : Nat) => [AVal.str (v.keys.getD i [])]] (AVal.list v.lf v.ln v.lr))).getD (0 + i) [])) [44];
 let m7 : Nat := l6.length;
 let c8 : Bool := decide (1 + m7 ≤ 4611686018427387904);
 let z0 := [[AVal.str [110, 117, 108, 108]], [AVal.str [102, 97, 108, 115, 101]], [AVal.str [116, 114, 117, 101]]].getD v.kind.toNat [];
  bif bif decide (v.kind ≥ 0) then c0 else false then bif decide (0 ≤ v.kind) && c0 then bif decide (1 ≤ z0.length) && isStr (z0.getD 0 AVal.undef) then k (Out.ret (AVal.str (strOf (z0.getD 0 AVal.undef))) []) else none else none else bif bif c1 then decide (v.int < 0) else false then bif c2 then bif decide (1 + (printM v.int).length ≤ 4611686018427387904) then k (Out.ret (AVal.str (32 :: printM v.int)) []) else none else none else bif c1 then bif c2 then k (Out.ret (AVal.str (printM v.int)) []) else none else bif bif v.kind != 5 then v.kind != 6 else false then bif decide (v.text.length ≤ 26843545) then k (Out.ret (AVal.str (Q v.text)) []) else none else bif decide (16 * n3 ≤ 281474976710656) && decide (n3 ≤ 9223372036854775807) then bif tst ((V [AVal.int .i64 v.kind, AVal.int .i64 v.int, AVal.str v.text, AVal.list v.lf v.ln v.lr, AVal.list v.kf v.keys.length fun (i : Nat) => [AVal.str (v.keys.getD i [])]] ∧ Wl (AVal.list v.lf v.ln v.lr)) ∧ SubTL [AVal.ptr (Oid.tmp 1) 0, AVal.own 0 0 0 0 false, AVal.list v.lf v.ln v.lr, AVal.int .i64 n3, AVal.int .i64 0] [AVal.ptr (Oid.tmp 1) 0, AVal.own 0 0 0 0 false, canV (AVal.list v.lf v.ln v.lr), AVal.int .i64 (↑(lnV (AVal.list v.lf v.ln v.lr)) : Int), AVal.int .i64 0] ∧ [[AVal.int .i64 v.kind, AVal.int .i64 v.int, AVal.str v.text, AVal.list v.lf v.ln v.lr, AVal.list v.kf v.keys.length fun (i : Nat) => [AVal.str (v.keys.getD i [])]]] = [[AVal.int .i64 v.kind, AVal.int .i64 v.int, AVal.str v.text, AVal.list v.lf v.ln v.lr, AVal.list v.kf v.keys.length fun (i : Nat) => [AVal.str (v.keys.getD i [])]]] ∧ [Obj.arr 1 [] 0] = [Obj.arr 1 [] 0]) then bif (m4 == m4 && decide (0 + m4 ≤ (List.map encS (L [AVal.int .i64 v.kind, AVal.int .i64 v.int, AVal.str v.text, AVal.list v.lf v.ln v.lr, AVal.list v.kf v.keys.length fun (i : Nat) => [AVal.str (v.keys.getD i [])]] (AVal.list v.lf v.ln v.lr))).length) && (List.map encS (L [AVal.int .i64 v.kind, AVal.int .i64 v.int, AVal.str v.text, AVal.list v.lf v.ln v.lr, AVal.list v.kf v.keys.length fun (i : Nat) => [AVal.str (v.keys.getD i [])]] (AVal.list v.lf v.ln v.lr))).all fun (r : List AVal) => r.all isPure) && true then bif tst ((m5 ≤ 140737488355328 ∧ m7 ≤ 140737488355328) ∧ SubL [AVal.list false m4 fun (i : Nat) => (List.map encS (L [AVal.int .i64 v.kind, AVal.int .i64 v.int, AVal.str v.text, AVal.list v.lf v.ln v.lr, AVal.list v.kf v.keys.length fun (i : Nat) => [AVal.str (v.keys.getD i [])]] (AVal.list v.lf v.ln v.lr))).getD (0 + i) [], AVal.str [44]] [AVal.list false m5 fun (i : Nat) => [AVal.str ((decL decS (AVal.list false (L [AVal.int .i64 v.kind, AVal.int .i64 v.int, AVal.str v.text, AVal.list v.lf v.ln v.lr, AVal.list v.kf v.keys.length fun (i : Nat) => [AVal.str (v.keys.getD i [])]] (AVal.list v.lf v.ln v.lr)).length fun (i : Nat) => (List.map encS (L [AVal.int .i64 v.kind, AVal.int .i64 v.int, AVal.str v.text, AVal.list v.lf v.ln v.lr, AVal.list v.kf v.keys.length fun (i : Nat) => [AVal.str (v.keys.getD i [])]] (AVal.list v.lf v.ln v.lr))).getD (0 + i) [])).getD i [])], AVal.str [44]] ∧ ([] : Heap) = []) then bif v.kind == 6 then bif c8 then bif decide ((123 :: l6).length + 1 ≤ 4611686018427387904) then k (Out.ret (AVal.str (123 :: (l6 ++ [125]))) [Obj.arr 1 (List.map encS (L [AVal.int .i64 v.kind, AVal.int .i64 v.int, AVal.str v.text, AVal.list v.lf v.ln v.lr, AVal.list v.kf v.keys.length fun (i : Nat) => [AVal.str (v.keys.getD i [])]] (AVal.list v.lf v.ln v.lr))) m4]) else none else none else bif c8 then bif decide ((91 :: l6).length + 1 ≤ 4611686018427387904) then k (Out.ret (AVal.str (91 :: (l6 ++ [93]))) [Obj.arr 1 (List.map encS (L [AVal.int .i64 v.kind, AVal.int .i64 v.int, AVal.str v.text, AVal.list v.lf v.ln v.lr, AVal.list v.kf v.keys.length fun (i : Nat) => [AVal.str (v.keys.getD i [])]] (AVal.list v.lf v.ln v.lr))) m4]) else none else none else none else none else none else none) := by kernel_rfl
end Go.Mu
namespace Go.Mu
open Go Go.Proofs
def lKey (v : VaD) (i : Nat) : List UInt8 := if v.kind = 6 ∧ i < v.keys.length then quoP (v.keys.getD i []) ++ [58] else []
def lItem (R : VaD → List UInt8) (v : VaD) (l : List VaD) (i : Nat) : List UInt8 := lKey v i ++ R (l.getD i va0)
def lItems (R : VaD → List UInt8) (v : VaD) (l : List VaD) : List (List UInt8) := (List.range l.length).map (lItem R v l)
def litL (v : VaD) (s : List UInt8) : List UInt8 := if v.kind = 6 then 123 :: (s ++ [125]) else 91 :: (s ++ [93])
def litV : Nat → VaD → List UInt8
 | 0, _ => []
 | d + 1, v => if v.kind = 0 then [110, 117, 108, 108] else if v.kind = 1 then [102, 97, 108, 115, 101] else if v.kind = 2 then [116, 114, 117, 101] else if v.kind = 3 then (if v.int < 0 then 32 :: printM v.int else printM v.int)
  else if v.kind = 5 ∨ v.kind = 6 then litL v (Lib.join (lItems (litV d) v (vals v.list)) [44]) else quoP v.text
theorem join_le (b : UInt8) : ∀ (l : List (List UInt8)), (Lib.join l [b]).length ≤ (l.map (fun x => x.length + 1)).sum
 | [] => by simp [Lib.join_nil]
 | [x] => by simp [Lib.join_one]
 | x :: y :: l => by
  have ih := join_le b (y :: l)
  have e : Lib.join (x :: y :: l) [b] = x ++ [b] ++ Lib.join (y :: l) [b] := by
   unfold Lib.join
   simp [List.intercalate, List.intersperse]
  rw [e, List.map_cons, List.sum_cons, List.length_append, List.length_append]
  simp only [List.length_singleton]
  omega
theorem lKey_len (v : VaD) (i : Nat) : (lKey v i).length ≤ if i < v.keys.length then 3 + 12 * (v.keys.getD i []).length else 0 := by
 unfold lKey
 have := quoP_len (v.keys.getD i [])
 split
 · rename_i h; rw [if_pos h.2, List.length_append]; simp only [List.length_singleton]; omega
 · simp
theorem lItems_len (v : VaD) (R : VaD → List UInt8) (S : VaD → Nat) (l : List VaD) (hR : ∀ v ∈ l, (R v).length + 8 ≤ S v) : ∀ i, i ≤ l.length →
 (((List.range i).map (lItem R v l)).map (fun x => x.length + 1)).sum ≤ ((l.take i).map S).sum + ((v.keys.take i).map (fun k => 16 + 16 * k.length)).sum := by
 intro i
 induction i with
 | zero => intro _; simp
 | succ i ih =>
  intro hi
  have ih := ih (by omega)
  rw [List.range_succ, List.map_append, List.map_append, List.sum_append, take_sum S l va0 i (by omega)]
  have hm : l.getD i va0 ∈ l := by rw [List.getD_eq_getElem?_getD, List.getElem?_eq_getElem (by omega)]; exact List.getElem_mem _
  have h1 := hR _ hm
  have h3 := lKey_len v i
  have h4 : (lItem R v l i).length = (lKey v i).length + (R (l.getD i va0)).length := List.length_append
  simp only [List.map_cons, List.map_nil, List.sum_cons, List.sum_nil]
  by_cases hk : i < v.keys.length
  · rw [take_sum (fun k : List UInt8 => 16 + 16 * k.length) v.keys [] i hk]
    rw [if_pos hk] at h3
    omega
  · rw [if_neg hk] at h3
    rw [List.take_of_length_le (by omega : v.keys.length ≤ i + 1)]
    rw [List.take_of_length_le (by omega : v.keys.length ≤ i)] at ih
    omega
theorem lJoin_len (v : VaD) (R : VaD → List UInt8) (S : VaD → Nat) (l : List VaD) (hR : ∀ v ∈ l, (R v).length + 8 ≤ S v) : (Lib.join (lItems R v l) [44]).length ≤ (l.map S).sum + (v.keys.map (fun k => 16 + 16 * k.length)).sum := by
 have h := lItems_len v R S l hR l.length (Nat.le_refl _)
 rw [List.take_of_length_le (Nat.le_refl _)] at h
 have := take_sum_le (fun k : List UInt8 => 16 + 16 * k.length) v.keys l.length
 have := join_le 44 (lItems R v l)
 unfold lItems at *
 omega
theorem litV_len : ∀ (d : Nat) (v : VaD), (litV d v).length + 8 ≤ szV d v
 | 0, v => by unfold litV szV; simp
 | d + 1, v => by
  have h1 := lJoin_len v (litV d) (szV d) (vals v.list) (fun v _ => litV_len d v)
  have h2 := quoP_len v.text
  have h3 := printM_len v.int
  unfold litV szV litL
  repeat' split
  all_goals first
   | (simp only [List.length_cons, List.length_nil]; omega)
   | (simp only [List.length_append, List.length_cons, List.length_nil]; omega)
   | omega
def ltR (d : Nat) (x : List AVal) : List UInt8 := litV d (decVa x)
theorem ltR_enc (d : Nat) (v : VaD) : ltR d (encVa v) = litV d v := by unfold ltR; rw [decVa_enc]
def lL (d : Nat) : LtR := fun c x => lItems (litV d) (decVa c) (vals x)
def kbV (x : List AVal) : Prop := isV x ∧ ((decVa x).keys.map (fun k => 16 + 16 * k.length)).sum ≤ 16777216
noncomputable abbrev ltTurn (d : Nat) := lturn Tryz.prog (layLt0 (WvD d) (ltR d) quoP) (ltFH kbV (WlD d) (lL d)) 21 11 [1,3,58,59,60] [1] [1,3] [1]
theorem lt_rd (d : Nat) (v : VaD) (hk : ∀ i, (v.keys.getD i []).length ≤ 4194304) (os : List (List UInt8)) (f : Bool) (l : List VaD) (hl : l.length ≤ 1048576) (i : Nat) (ho : os.length = i) (hi : i < l.length) (hW : wfVal d (l.getD i va0) ∧ szV d (l.getD i va0) ≤ 16777216) (D : List (FuncId × List AVal)) (k : Kont) :
 ltTurn d (stL 86 [1,3,58,59,60] [.ptr (.tmp 1) 0, .own 0 0 i i false, encVas f l, .int .i64 l.length, .int .i64 (i : Nat)] [1] [encVa v] [.arr 1 (os.map encS) i] D) k = k .normal (stL 86 [1,3,58,59,60] [.ptr (.tmp 1) 0, .own 0 0 (i + 1) (i + 1) false, encVas f l, .int .i64 l.length, .int .i64 ((i + 1 : Nat) : Int)] [1] [encVa v] [.arr 1 ((os ++ [lItem (litV d) v l i]).map encS) (i + 1)] D) := by
 have hp := litV_len d (l.getD i va0)
 have hki := hk i
 have hq := quoP_len (v.keys.getD i [])
 have el : (quoP (v.keys.getD i []) ++ [58]).length = (quoP (v.keys.getD i [])).length + 1 := by rw [List.length_append]; rfl
 have e1 : IntKind.i64.wrap ((i : Int) + 1) = ((i + 1 : Nat) : Int) := wrap_add1 (by omega)
 have hq2 : (i == (List.map encS os).length) = true := by rw [List.length_map, ho]; exact beq_self_eq_true _
 have e7 : decide ((2 * (i + 1) + 1000) * 16 ≤ 281474976710656) = true := dT (by omega)
 refine (lt_step (WvD d) (ltR d) quoP kbV (WlD d) (lL d) v i os f l.length (fun i => l.getD i va0) l.length i D k _ rfl _ rfl _ rfl _ rfl (litV d (l.getD i va0)) (ltR_enc d _).symm _ rfl (i + 1) rfl true (by rw [beq_self_eq_true, hq2, e7]; rfl) (v.keys.getD i []) (by rw [Int.toNat_natCast]) _ rfl (quoP (v.keys.getD i []) ++ [58]) rfl).trans ?_
 simp only [e1, dT (show (i : Int) < l.length by omega), dT (show (0 : Int) ≤ (i : Int) by omega), Bool.and_self, cond_true, Int.toNat_natCast]
 rw [List.map_append]
 unfold lItem lKey
 by_cases h6 : v.kind = 6 ∧ i < v.keys.length
 · have hb : (bif v.kind != 6 then true else decide ((i : Int) ≥ (v.keys.length : Int))) = false := by
    rw [h6.1, dF (show ¬ (i : Int) ≥ (v.keys.length : Int) by omega)]; rfl
   rw [hb, cond_false, if_pos h6]
   refine (congrArg (fun c => cond c _ none) (dT (show (i : Int) < (v.keys.length : Int) by omega))).trans ((cond_true _ _).trans ?_)
   refine (congrArg (fun c => cond c _ none) (dT (show (v.keys.getD i []).length ≤ 26843545 by omega))).trans ((cond_true _ _).trans ?_)
   refine (congrArg (fun c => cond c _ none) (dT (show (quoP (v.keys.getD i [])).length + 1 ≤ 4611686018427387904 by omega))).trans ((cond_true _ _).trans ?_)
   refine (congrArg (fun c => cond c _ none) (tst_true ⟨WvD_enc hW.1 hW.2, .refl _, by trivial⟩)).trans ((cond_true _ _).trans ?_)
   exact (congrArg (fun c => cond c _ none) (dT (by omega))).trans rfl
 · have hb : (bif v.kind != 6 then true else decide ((i : Int) ≥ (v.keys.length : Int))) = true := by
    by_cases h : v.kind = 6
    · rw [h, dT (show (i : Int) ≥ (v.keys.length : Int) by omega)]; rfl
    · have : (v.kind != 6) = true := by simpa using h
      rw [this]; rfl
   rw [hb, cond_true, if_neg h6]
   refine (congrArg (fun c => cond c _ none) (tst_true ⟨WvD_enc hW.1 hW.2, .refl _, by trivial⟩)).trans ((cond_true _ _).trans ?_)
   exact (congrArg (fun c => cond c _ none) (dT (by omega))).trans rfl
theorem ltSp_ok (d : Nat) : SpOK (ltTurn d) 86 [1,3,58,59,60] [1] [1,3] [1] (ltSp kbV (WlD d) (lL d)) := mkL_ok fun a h => by
 obtain ⟨c, x⟩ := a
 obtain ⟨h1, h3⟩ := h
 simp only at h1 h3
 have hl := WlD_len h3
 obtain ⟨hv, hk⟩ := h1
 have hv : c = encVa (decVa c) := hv
 generalize hvd : decVa c = v at hv hk
 subst hv
 have hW : ∀ i, i < (vals x).length → wfVal d ((vals x).getD i va0) ∧ szV d ((vals x).getD i va0) ≤ 16777216 := fun i hi => WlD_mem h3 (by rw [List.getD_eq_getElem?_getD, List.getElem?_eq_getElem hi]; exact List.getElem_mem hi)
 have hki : ∀ i, (v.keys.getD i []).length ≤ 4194304 := fun i => by
  rw [List.getD_eq_getElem?_getD]
  by_cases hi : i < v.keys.length
  · rw [List.getElem?_eq_getElem hi]
    have := sum_mem (fun k : List UInt8 => 16 + 16 * k.length) v.keys _ (List.getElem_mem hi)
    simp only [Option.getD_some]
    omega
  · rw [List.getElem?_eq_none (by omega)]; simp
 have eL : lL d (encVa v) x = (List.range (vals x).length).map (lItem (litV d) v (vals x)) := by unfold lL lItems; rw [decVa_enc]
 have eLl : (lL d (encVa v) x).length = (vals x).length := by rw [eL]; simp
 refine ⟨.exit 1, [.ptr (.tmp 1) 0, .own 0 0 (vals x).length (vals x).length false], [encVa v], [.arr 1 (((List.range (vals x).length).map (lItem (litV d) v (vals x))).map encS) (vals x).length], fun k => ?_, ?_⟩
 · show k (.exit 1) [.ptr (.tmp 1) 0, .own 0 0 (lL d (encVa v) x).length (lL d (encVa v) x).length false] [encVa v] [.arr 1 ((lL d (encVa v) x).map encS) (lL d (encVa v) x).length] = _
   rw [eLl, eL]
 exact seq_runs (turn := ltTurn d) (n := 86) (l := [1,3,58,59,60]) (m := [1]) (lx := [1,3]) (mx := [1]) (fun i => [.ptr (.tmp 1) 0, .own 0 0 i i false, encVas (fullOf x) (vals x), .int .i64 (vals x).length, .int .i64 (i : Nat)]) (fun _ => [encVa v]) (fun i => [.arr 1 (((List.range i).map (lItem (litV d) v (vals x))).map encS) i]) (vals x).length (e := .exit 1) (by simp)
  (fun i hi D k => by
   refine (lt_rd d v hki _ (fullOf x) (vals x) (by omega) i (by simp) hi (hW i hi) D k).trans ?_
   rw [List.range_succ, List.map_append (f := lItem (litV d) v (vals x))]
   rfl)
  (fun D k => by
   refine (lt_step (WvD d) (ltR d) quoP kbV (WlD d) (lL d) v (vals x).length _ (fullOf x) (vals x).length (fun i => (vals x).getD i va0) (vals x).length (vals x).length D k _ rfl _ rfl _ rfl _ rfl _ rfl _ rfl _ rfl _ rfl _ rfl _ rfl _ rfl).trans ?_
   rw [dF (show ¬ ((vals x).length : Int) < (vals x).length by omega), cond_false]
   rfl)
end Go.Mu
namespace Go.Mu
open Go Go.Proofs
theorem dec_own (ls : List (List UInt8)) : decL decS (AVal.list false ls.length fun (i : Nat) => (List.map encS ls).getD (0 + i) []) = ls := by
 unfold decL
 simp only [Nat.zero_add]
 refine Eq.trans (List.map_congr_left (g := fun i => ls.getD i []) fun i hi => ?_) (range_getD ls [])
 have hi : i < ls.length := by simpa using hi
 rw [List.getD_eq_getElem?_getD, List.getElem?_map, List.getElem?_eq_getElem hi, List.getD_eq_getElem?_getD, List.getElem?_eq_getElem hi]
 rfl
theorem sub_own (ls : List (List UInt8)) : Sub (AVal.list false ls.length fun (i : Nat) => (List.map encS ls).getD (0 + i) []) (AVal.list false ls.length fun (i : Nat) => [AVal.str (ls.getD i [])]) := by
 refine Sub.list (fun h => h) (fun i hi => ?_)
 rw [Nat.zero_add, List.getD_eq_getElem?_getD, List.getElem?_map, List.getElem?_eq_getElem hi, List.getD_eq_getElem?_getD, List.getElem?_eq_getElem hi]
 exact .refl _
theorem all_own (ls : List (List UInt8)) : (ls.length == ls.length && decide (0 + ls.length ≤ (List.map encS ls).length) && (List.map encS ls).all (fun (r : List AVal) => r.all isPure) && true) = true := by
 rw [beq_self_eq_true, dT (show 0 + ls.length ≤ (List.map encS ls).length by rw [List.length_map]; omega)]
 have : (List.map encS ls).all (fun (r : List AVal) => r.all isPure) = true := by
  refine List.all_eq_true.2 (fun r hr => ?_)
  obtain ⟨s, _, rfl⟩ := List.mem_map.1 hr
  rfl
 rw [this]; rfl
theorem layLt0_ok {d : Nat} (h : ∀ xs H k out, ltTold (WvD d) (ltR d) xs H k = some out → ∃ o, CallOK Tryz.prog 21 xs H o ∧ k o = some out) : (layLt0 (WvD d) (ltR d) quoP).OK Tryz.prog :=
 (((Lay.nil_ok.addF h).addF quoTold_ok).addF sJoinTold_ok).addF prTold_ok
theorem layLt_ok {d : Nat} (h : ∀ xs H k out, ltTold (WvD d) (ltR d) xs H k = some out → ∃ o, CallOK Tryz.prog 21 xs H o ∧ k o = some out) : (layLt (WvD d) (ltR d) quoP kbV (WlD d) (lL d)).OK Tryz.prog :=
 (layLt0_ok h).loop1 (id := 11) (by kernel_rfl) (by kernel_rfl) (by kernel_rfl) (ltSp_ok d)
theorem lit_ok (d : Nat) (hp : ∀ xs H k out, ltTold (WvD d) (ltR d) xs H k = some out → ∃ o, CallOK Tryz.prog 21 xs H o ∧ k o = some out) (v : VaD) (hw : wfVal (d + 1) v) (hs : szV (d + 1) v ≤ 16777216) :
 CallOK Tryz.prog 21 [.agg (encVa v)] [] (.ret (.str (litV (d + 1) v)) []) := by
 have hL := layLt_ok hp
 have hl := wf_list hw hs
 have hks : (v.keys.map (fun k => 16 + 16 * k.length)).sum ≤ 16777216 := by unfold szV at hs; omega
 have hkb : kbV (encVa v) := ⟨isV_enc v, by rw [decVa_enc]; exact hks⟩
 have htx : v.text.length ≤ 26843545 := by unfold szV at hs; omega
 have hlen := lJoin_len v (litV d) (szV d) (vals v.list) (fun v _ => litV_len d v)
 have hjs : (Lib.join (lItems (litV d) v (vals v.list)) [44]).length ≤ 134217728 := by
  have := hl.2.2
  omega
 have hn := WlD_len hl
 have e : lnV (AVal.list v.lf v.ln v.lr) = v.ln := lnV_eq (d := d) hl
 have hln : v.ln ≤ 1048576 := by rw [← e]; exact hn
 have hpl := printM_len v.int
 have eL : lL d [AVal.int .i64 v.kind, AVal.int .i64 v.int, AVal.str v.text, AVal.list v.lf v.ln v.lr, AVal.list v.kf v.keys.length fun (i : Nat) => [AVal.str (v.keys.getD i [])]] (AVal.list v.lf v.ln v.lr) = lItems (litV d) v (vals v.list) := by
  show lItems (litV d) (decVa (encVa v)) (vals v.list) = _
  rw [decVa_enc]
 have hil : (lItems (litV d) v (vals v.list)).length ≤ 140737488355328 := by unfold lItems; rw [List.length_map, List.length_range]; omega
 have key := fun k => lit_fun (WvD d) (ltR d) quoP kbV (WlD d) (lL d) v k
 simp only [eL, dec_own] at key
 unfold litV
 by_cases h0 : v.kind = 0
 · rw [if_pos h0]
   refine hL.callF (G := []) rfl (fun k => (key k).trans ?_)
   rw [h0]; rfl
 rw [if_neg h0]
 by_cases h1 : v.kind = 1
 · rw [if_pos h1]
   refine hL.callF (G := []) rfl (fun k => (key k).trans ?_)
   rw [h1]; rfl
 rw [if_neg h1]
 by_cases h2 : v.kind = 2
 · rw [if_pos h2]
   refine hL.callF (G := []) rfl (fun k => (key k).trans ?_)
   rw [h2]; rfl
 rw [if_neg h2]
 have hb0 : (bif decide (v.kind ≥ 0) then decide (v.kind < 3) else false) = false := by
  by_cases hg : v.kind ≥ 0
  · rw [dF (show ¬ v.kind < 3 by omega), Bool.cond_self]
  · rw [dF hg]; rfl
 by_cases h3 : v.kind = 3
 · rw [if_pos h3]
   have hi : decide (-9223372036854775808 ≤ v.int ∧ v.int ≤ 9223372036854775807) = true := dT ⟨hw.1, hw.2.1⟩
   refine hL.callF (G := []) rfl (fun k => (key k).trans ?_)
   have e3 : (v.kind == 3) = true := by rw [h3]; rfl
   rw [hb0, e3, hi]
   by_cases hng : v.int < 0
   · rw [if_pos hng, dT hng, dT (show 1 + (printM v.int).length ≤ 4611686018427387904 by omega)]; rfl
   · rw [if_neg hng, dF hng]; rfl
 rw [if_neg h3]
 have e3 : (v.kind == 3) = false := beq_false_of_ne h3
 by_cases h56 : v.kind = 5 ∨ v.kind = 6
 · rw [if_pos h56]
   have hb5 : (bif v.kind != 5 then v.kind != 6 else false) = false := by
    rcases h56 with h | h <;> rw [h] <;> rfl
   simp only [hb0, e3, hb5, cond_false] at key
   replace key := fun k => (key k).trans
    ((congrArg (fun c => cond c _ none) (show (decide (16 * (v.ln : Int) ≤ 281474976710656) && decide ((v.ln : Int) ≤ 9223372036854775807)) = true by rw [dT (by omega), dT (by omega)]; rfl)).trans ((cond_true _ _).trans
    ((congrArg (fun c => cond c _ none) (tst_true ⟨⟨hkb, hl⟩, (by rw [e]; exact .cons (.refl _) (.cons (.refl _) (.cons (canV_sub hl) (.refl _)))), by trivial⟩)).trans ((cond_true _ _).trans
    ((congrArg (fun c => cond c _ none) (all_own _)).trans ((cond_true _ _).trans
    ((congrArg (fun c => cond c _ none) (tst_true ⟨⟨hil, by omega⟩, .cons (sub_own _) (.refl _), by trivial⟩)).trans (cond_true _ _))))))))
   unfold litL
   by_cases h6 : v.kind = 6
   · have e6 : (v.kind == 6) = true := by rw [h6]; rfl
     rw [if_pos h6]
     simp only [e6, cond_true] at key
     exact hL.callF rfl (fun k => (key k).trans ((congrArg (fun c => cond c _ none) (dT (by omega))).trans ((cond_true _ _).trans ((congrArg (fun c => cond c _ none) (dT (by rw [List.length_cons]; omega))).trans (cond_true _ _)))))
   · have e6 : (v.kind == 6) = false := beq_false_of_ne h6
     rw [if_neg h6]
     simp only [e6, cond_false] at key
     exact hL.callF rfl (fun k => (key k).trans ((congrArg (fun c => cond c _ none) (dT (by omega))).trans ((cond_true _ _).trans ((congrArg (fun c => cond c _ none) (dT (by rw [List.length_cons]; omega))).trans (cond_true _ _)))))
 · rw [if_neg h56]
   have hb5 : (bif v.kind != 5 then v.kind != 6 else false) = true := by
    have a : (v.kind != 5) = true := by simp; omega
    have b : (v.kind != 6) = true := by simp; omega
    rw [a, b]; rfl
   refine hL.callF (G := []) rfl (fun k => (key k).trans ?_)
   rw [hb0, e3, hb5, dT htx]
   rfl
theorem ltTold_ok : ∀ (d : Nat) xs H k out, ltTold (WvD d) (ltR d) xs H k = some out → ∃ o, CallOK Tryz.prog 21 xs H o ∧ k o = some out
 | 0 => vrTold_ok (ok := WvD 0) (post := fun x k => k (.ret (.str (ltR 0 x)) [])) fun x h => absurd h.2.1 (by unfold wfVal; exact id)
 | d + 1 => vrTold_ok (ok := WvD (d + 1)) (post := fun x k => k (.ret (.str (ltR (d + 1) x)) [])) fun x h => ⟨_, fun k => rfl, by
  obtain ⟨h1, h2, h3⟩ := h
  have h1 : x = encVa (decVa x) := h1
  have key := lit_ok d (ltTold_ok d) (decVa x) h2 h3
  rw [← h1] at key
  exact key⟩
end Go.Mu
namespace Go.Mu
open Go Go.Proofs
def fSS (R : List UInt8 → List UInt8) (n : Nat) : FSp := mkFS [.s] (fun xs => decide ((aS xs 0).length ≤ n)) (fun xs k => k (.ret (.str (R (aS xs 0))) []))
def okE (s : List UInt8) : Bool := decide (s.length ≤ 17592186044416 ∧ (rpP s).length ≤ 107374182)
def fSE (R : List UInt8 → List UInt8) : FSp := mkFS [.s] (fun xs => okE (aS xs 0)) (fun xs k => k (.ret (.str (R (aS xs 0))) []))
def laySf (N : List UInt8 → List UInt8) : Lay := (Lay.nil.addF 71 schTold).addF 44 (fSS N 26843545)
theorem schF_fun (N : List UInt8 → List UInt8) (s : List UInt8) (k : Out → Ans) : iFun Tryz.prog ((laySf N).hd Tryz.prog) (laySf N).fhs 0 43 [.str s] [] k = (
 let l0 : List UInt8 := (schemeM s).fst;
  bif decide (s.length ≤ 1099511627776) then
  bif
  bif (schemeM s).snd then
  !bif bif l0 == [104, 116, 116, 112] then true else l0 == [104, 116, 116, 112, 115] then true
  else l0 == [109, 97, 105, 108, 116, 111]
  else false then
  k (Out.ret (AVal.str [35, 90, 103, 111, 116, 109, 112, 108, 90]) [])
  else bif decide (s.length ≤ 26843545) then k (Out.ret (AVal.str (N s)) []) else none
  else none) := by kernel_rfl
noncomputable def layTo (W : List AVal → Prop) (R : List AVal → List UInt8) : Lay := Lay.nil.addF 48 (pvTold W R)
theorem ftold_fun (W : List AVal → Prop) (R : List AVal → List UInt8) (v : VaD) (k : Out → Ans) : iFun Tryz.prog ((layTo W R).hd Tryz.prog) (layTo W R).fhs 0 23 [.agg (encVa v)] [] k = (
 bif v.kind == 0 then k (Out.ret (AVal.str []) []) else bif tst (W (cellsA (AVal.agg [AVal.int .i64 v.kind, AVal.int .i64 v.int, AVal.str v.text, AVal.list v.lf v.ln v.lr, AVal.list v.kf v.keys.length fun (i : Nat) => [AVal.str (v.keys.getD i [])]])) ∧ SubL [AVal.agg [AVal.int .i64 v.kind, AVal.int .i64 v.int, AVal.str v.text, AVal.list v.lf v.ln v.lr, AVal.list v.kf v.keys.length fun (i : Nat) => [AVal.str (v.keys.getD i [])]]] [AVal.agg (cellsA (AVal.agg [AVal.int .i64 v.kind, AVal.int .i64 v.int, AVal.str v.text, AVal.list v.lf v.ln v.lr, AVal.list v.kf v.keys.length fun (i : Nat) => [AVal.str (v.keys.getD i [])]]))] ∧ ([] : Heap) = []) then k (Out.ret (AVal.str (R (cellsA (AVal.agg [AVal.int .i64 v.kind, AVal.int .i64 v.int, AVal.str v.text, AVal.list v.lf v.ln v.lr, AVal.list v.kf v.keys.length fun (i : Nat) => [AVal.str (v.keys.getD i [])]])))) []) else none) := by kernel_rfl
abbrev SFun := List UInt8 → List UInt8
def layPl1 (E S N P J C : SFun) : Lay := (((((Lay.nil.addF 20 (fSE E)).addF 43 (fSS S 26843545)).addF 44 (fSS N 26843545)).addF 45 (fSS P 26843545)).addF 46 (fSS J 26843545)).addF 47 (fSS C 26843545)
theorem fplain_fun (E S N P J C : SFun) (e : Int) (s : List UInt8) (k : Out → Ans) : iFun Tryz.prog ((layPl1 E S N P J C).hd Tryz.prog) (layPl1 E S N P J C).fhs 0 22 [.int .i64 e, .str s] [] k = (
 let c0 : Bool := e == 1;
 let c1 : Bool := decide (s.length ≤ 26843545);
 let c2 : Bool := e == 2;
 let z0 := bif e == 4 then bif c1 then bif okE (S s) then k (Out.ret (AVal.str (E (S s))) []) else none else none else bif e == 5 then bif c1 then bif okE (N s) then k (Out.ret (AVal.str (E (N s))) []) else none else none else bif e == 6 then bif c1 then bif okE (P s) then k (Out.ret (AVal.str (E (P s))) []) else none else none else bif e == 8 then bif c1 then k (Out.ret (AVal.str (J s)) []) else none else bif e == 10 then bif c1 then bif okE (J s) then k (Out.ret (AVal.str (E (J s))) []) else none else none else bif e == 11 then bif c1 then k (Out.ret (AVal.str (C s)) []) else none else bif e == 12 then bif c1 then bif okE (C s) then k (Out.ret (AVal.str (E (C s))) []) else none else none else k (Out.ret (AVal.str []) []);
 let z1 := Out.ret (AVal.str (E s)) [];
  bif c0 then bif c0 then bif okE s then k z1 else none else z0 else bif c2 then bif c2 then bif okE s then k z1 else none else z0 else bif e == 3 then bif okE s then k z1 else none else z0) := by kernel_rfl
noncomputable def layCk (W : List AVal → Prop) (N : NsT) : Lay := Lay.nil.addF 34 (nsTold W N)
theorem vchk_fun (W : List AVal → Prop) (N : NsT) (v : VaD) (k : Out → Ans) : iFun Tryz.prog ((layCk W N).hd Tryz.prog) (layCk W N).fhs 0 19 [.agg (encVa v)] [] k = (
 bif tst ((W (cellsA (AVal.agg [AVal.int .i64 v.kind, AVal.int .i64 v.int, AVal.str v.text, AVal.list v.lf v.ln v.lr, AVal.list v.kf v.keys.length fun (i : Nat) => [AVal.str (v.keys.getD i [])]])) ∧ (0 : Int) ≤ 16 ∧ (16 : Int) ≤ 16) ∧ SubL [AVal.agg [AVal.int .i64 v.kind, AVal.int .i64 v.int, AVal.str v.text, AVal.list v.lf v.ln v.lr, AVal.list v.kf v.keys.length fun (i : Nat) => [AVal.str (v.keys.getD i [])]], AVal.int .i64 16] [AVal.agg (cellsA (AVal.agg [AVal.int .i64 v.kind, AVal.int .i64 v.int, AVal.str v.text, AVal.list v.lf v.ln v.lr, AVal.list v.kf v.keys.length fun (i : Nat) => [AVal.str (v.keys.getD i [])]])), AVal.int .i64 16] ∧ ([] : Heap) = []) then k (Out.ret (AVal.int .i64 (N (cellsA (AVal.agg [AVal.int .i64 v.kind, AVal.int .i64 v.int, AVal.str v.text, AVal.list v.lf v.ln v.lr, AVal.list v.kf v.keys.length fun (i : Nat) => [AVal.str (v.keys.getD i [])]])) 16)) []) else none) := by kernel_rfl
noncomputable def ckTold (W : List AVal → Prop) (N : List AVal → Int) : FSp := vrTold W (fun x k => k (.ret (.int .i64 (N x)) []))
noncomputable def saTold (B : Int → Int → Bool) : FSp := mkFS [.i .i64, .i .i64] (fun xs => true) (fun xs k => k (.ret (.bool (B (aI xs 0) (aI xs 1))) []))
noncomputable def pnTold (Q : Int → SFun) : FSp := mkFS [.i .i64, .s] (fun xs => decide (1 ≤ aI xs 0 ∧ aI xs 0 ≤ 12 ∧ (aS xs 1).length ≤ 4194304)) (fun xs k => k (.ret (.str (Q (aI xs 0) (aS xs 1))) []))
noncomputable def layAp (W1 W2 : List AVal → Prop) (N : List AVal → Int) (B : Int → Int → Bool) (E : SFun) (L T : List AVal → List UInt8) (Q : Int → SFun) : Lay :=
 (((((Lay.nil.addF 19 (ckTold W1 N)).addF 13 (saTold B)).addF 20 (fSE E)).addF 21 (ltTold W1 L)).addF 23 (pvTold W2 T)).addF 22 (pnTold Q)
theorem fapply_fun (W1 W2 : List AVal → Prop) (N : List AVal → Int) (B : Int → Int → Bool) (E : SFun) (L T : List AVal → List UInt8) (Q : Int → SFun) (e : Int) (v : VaD) (k : Out → Ans) : iFun Tryz.prog ((layAp W1 W2 N B E L T Q).hd Tryz.prog) (layAp W1 W2 N B E L T Q).fhs 0 11 [.int .i64 e, .agg (encVa v)] [] k = (
 let c0 : Bool := tst (W1 (cellsA (AVal.agg [AVal.int .i64 v.kind, AVal.int .i64 v.int, AVal.str v.text, AVal.list v.lf v.ln v.lr, AVal.list v.kf v.keys.length fun (i : Nat) => [AVal.str (v.keys.getD i [])]])) ∧ SubL [AVal.agg [AVal.int .i64 v.kind, AVal.int .i64 v.int, AVal.str v.text, AVal.list v.lf v.ln v.lr, AVal.list v.kf v.keys.length fun (i : Nat) => [AVal.str (v.keys.getD i [])]]] [AVal.agg (cellsA (AVal.agg [AVal.int .i64 v.kind, AVal.int .i64 v.int, AVal.str v.text, AVal.list v.lf v.ln v.lr, AVal.list v.kf v.keys.length fun (i : Nat) => [AVal.str (v.keys.getD i [])]]))] ∧ ([] : Heap) = []);
 let n1 : Int := N (cellsA (AVal.agg [AVal.int .i64 v.kind, AVal.int .i64 v.int, AVal.str v.text, AVal.list v.lf v.ln v.lr, AVal.list v.kf v.keys.length fun (i : Nat) => [AVal.str (v.keys.getD i [])]]));
 let c2 : Bool := e == 7;
 let l3 : List UInt8 := L (cellsA (AVal.agg [AVal.int .i64 v.kind, AVal.int .i64 v.int, AVal.str v.text, AVal.list v.lf v.ln v.lr, AVal.list v.kf v.keys.length fun (i : Nat) => [AVal.str (v.keys.getD i [])]]));
 let c4 : Bool := decide (1 + l3.length ≤ 4611686018427387904);
 let c5 : Bool := decide ((32 :: l3).length + 1 ≤ 4611686018427387904);
 let l6 : List UInt8 := 32 :: (l3 ++ [32]);
 let l7 : List UInt8 := T (cellsA (AVal.agg [AVal.int .i64 v.kind, AVal.int .i64 v.int, AVal.str v.text, AVal.list v.lf v.ln v.lr, AVal.list v.kf v.keys.length fun (i : Nat) => [AVal.str (v.keys.getD i [])]]));
  bif bif decide (e < 1) then true else decide (e > 12) then k (Out.ret (AVal.tuple [AVal.str [], AVal.int .i64 4]) []) else bif c0 then bif n1 != 0 then k (Out.ret (AVal.tuple [AVal.str [], AVal.int .i64 n1]) []) else bif bif B e v.kind then bif bif e == 1 then true else c2 then true else e == 11 else false then k (Out.ret (AVal.tuple [AVal.str v.text, AVal.int .i64 0]) []) else bif B e v.kind then bif okE v.text then k (Out.ret (AVal.tuple [AVal.str (E v.text), AVal.int .i64 0]) []) else none else bif c2 then bif c0 then bif c4 then bif c5 then k (Out.ret (AVal.tuple [AVal.str l6, AVal.int .i64 0]) []) else none else none else none else bif e == 9 then bif c0 then bif c4 then bif c5 then bif okE l6 then k (Out.ret (AVal.tuple [AVal.str (E l6), AVal.int .i64 0]) []) else none else none else none else none else bif tst (W2 (cellsA (AVal.agg [AVal.int .i64 v.kind, AVal.int .i64 v.int, AVal.str v.text, AVal.list v.lf v.ln v.lr, AVal.list v.kf v.keys.length fun (i : Nat) => [AVal.str (v.keys.getD i [])]])) ∧ SubL [AVal.agg [AVal.int .i64 v.kind, AVal.int .i64 v.int, AVal.str v.text, AVal.list v.lf v.ln v.lr, AVal.list v.kf v.keys.length fun (i : Nat) => [AVal.str (v.keys.getD i [])]]] [AVal.agg (cellsA (AVal.agg [AVal.int .i64 v.kind, AVal.int .i64 v.int, AVal.str v.text, AVal.list v.lf v.ln v.lr, AVal.list v.kf v.keys.length fun (i : Nat) => [AVal.str (v.keys.getD i [])]]))] ∧ ([] : Heap) = []) then bif decide (1 ≤ e ∧ e ≤ 12 ∧ l7.length ≤ 4194304) then k (Out.ret (AVal.tuple [AVal.str (Q e l7), AVal.int .i64 0]) []) else none else none else none) := by kernel_rfl
end Go.Mu
namespace Go.Mu
open Go Go.Proofs
def ascB (c : UInt8) : Bool := decide (1 ≤ c.toNat) && decide (c.toNat < 128) && c != 60
abbrev ascL (t : List UInt8) : Prop := ∀ c ∈ t, ascB c = true
theorem ascL_app {a b : List UInt8} (ha : ascL a) (hb : ascL b) : ascL (a ++ b) := fun c hc => by
 rcases List.mem_append.1 hc with h | h
 · exact ha c h
 · exact hb c h
theorem ascL_flat {α : Type} {f : α → List UInt8} {l : List α} (h : ∀ a ∈ l, ascL (f a)) : ascL (l.flatMap f) := fun c hc => by
 obtain ⟨a, ha, hc⟩ := List.mem_flatMap.1 hc
 exact h a ha c hc
theorem ascL_of {t : List UInt8} (h : t.all ascB = true) : ascL t := fun c hc => List.all_eq_true.1 h c hc
theorem rp_asc {t : List UInt8} (h : ascL t) : rpP t = t := by
 rw [← repB_rp]
 unfold repB
 refine repF_ascii t t.length (Nat.le_refl _) (fun c hc => ?_)
 have := h c hc
 unfold ascB at this
 simp only [Bool.and_eq_true, decide_eq_true_eq] at this
 exact this.1
theorem hxC_asc (n d : Int) : ascB (hxC (hxN n d)) = true := by
 have h1 := hxN_lt n d
 have h0 : 0 ≤ hxN n d := by
  unfold hxN
  have e : ∀ x : Int, IntKind.u64.wrap x = x % 18446744073709551616 := fun x => by simp [IntKind.wrap, IntKind.signed, IntKind.bits]
  rw [e]
  omega
 obtain ⟨m, hm⟩ : ∃ m : Fin 16, hxN n d = ((m.val : Nat) : Int) := ⟨⟨(hxN n d).toNat, by omega⟩, by simp; omega⟩
 rw [hm]
 revert m
 have key : ∀ m : Fin 16, ascB (hxC ((m.val : Nat) : Int)) = true := by decide +kernel
 exact fun m _ => key m
theorem hexX_asc (n size : Int) : ascL (hexX n size) := by
 unfold hexX
 cases size == 2
 · refine ascL_of ?_
   simp [hxC_asc]
 · refine ascL_of ?_
   simp [hxC_asc]
theorem pln_oct : ∀ m : Fin 128, 0 < m.val → plnM ((m.val : Nat) : Int) = true → ascB (UInt8.ofNat (IntKind.u8.wrap ((m.val : Nat) : Int)).toNat) = true := by decide +kernel
theorem qB_asc {c : Int} (h : 0 < c) : ascL (qB c).flatten := by
 unfold qB
 have u : ascL [92, 117] := ascL_of (by decide)
 cases hp : plnM c with
 | true =>
  have hlt : c < 128 := by
   unfold plnM at hp
   by_cases h2 : c < 128
   · exact h2
   · rw [dF h2] at hp; cases hp
  obtain ⟨m, hm⟩ : ∃ m : Fin 128, c = ((m.val : Nat) : Int) := ⟨⟨c.toNat, by omega⟩, by simp; omega⟩
  subst hm
  have := pln_oct m (by omega) hp
  simp only [cond_true, List.flatten_cons, List.flatten_nil, List.append_nil]
  exact ascL_of (by simpa using this)
 | false =>
  simp only [cond_false]
  cases decide (c > 65535)
  · simp only [cond_false, List.flatten_cons, List.flatten_nil, List.append_nil]
    exact ascL_app u (hexX_asc _ _)
  · simp only [cond_true, List.flatten_cons, List.flatten_nil, List.append_nil]
    exact ascL_app u (ascL_app (hexX_asc _ _) (ascL_app u (hexX_asc _ _)))
theorem qT_asc (s : List UInt8) : ascL (qT (chP s)) := ascL_flat (fun c hc => qB_asc (chP_ok s c hc).1)
theorem jsE_asc (s : List UInt8) : ascL (jsE s) := qT_asc s
theorem quoP_asc (s : List UInt8) : ascL (quoP s) := ascL_app (ascL_app (ascL_of (by decide)) (qT_asc s)) (ascL_of (by decide))
theorem unr_oct : ∀ c : UInt8, unrI ((c.toNat : Nat) : Int) = true → ascB c = true := oct256 (p := fun c => unrI ((c.toNat : Nat) : Int) = true → ascB c = true) (by decide +kernel)
theorem res_oct : ∀ c : UInt8, ibM [33, 35, 36, 38, 42, 43, 44, 47, 58, 59, 61, 63, 64, 91, 93] ((c.toNat : Nat) : Int) ≥ 0 → ascB c = true := oct256 (p := fun c => ibM [33, 35, 36, 38, 42, 43, 44, 47, 58, 59, 61, 63, 64, 91, 93] ((c.toNat : Nat) : Int) ≥ 0 → ascB c = true) (by decide +kernel)
theorem wrT_asc {M : List UInt8 → Int → Bool} (hM : ∀ s (i : Nat), M s i = true → ascB (s.getD i 0) = true) (s : List UInt8) : ascL (wrT M s) := ascL_flat (fun i _ => by
 unfold wrG
 cases h : M s i with
 | true =>
  simp only [cond_true, List.flatten_cons, List.flatten_nil, List.append_nil]
  exact ascL_of (by simpa using hM s i h)
 | false =>
  simp only [cond_false, List.flatten_cons, List.flatten_nil, List.append_nil]
  exact ascL_app (ascL_of (by decide)) (hexX_asc _ _))
theorem pencP_asc (s : List UInt8) : ascL (pencP s) := wrT_asc (fun s i h => unr_oct _ h) _
theorem normP_asc (s : List UInt8) : ascL (normP s) := wrT_asc (fun s i h => by
 unfold mayNM at h
 simp only [Int.toNat_natCast] at h
 cases hu : unrI ((s.getD i 0).toNat : Int) with
 | true => exact unr_oct _ hu
 | false =>
  rw [hu] at h
  simp only [cond_false] at h
  cases hr : decide (ibM [33, 35, 36, 38, 42, 43, 44, 47, 58, 59, 61, 63, 64, 91, 93] ((s.getD i 0).toNat : Int) ≥ 0) with
  | true => exact res_oct _ (of_decide_eq_true hr)
  | false =>
   rw [hr] at h
   simp only [cond_false, Bool.cond_self] at h
   cases hq : (((s.getD i 0).toNat : Int) != 37) with
   | true => rw [hq] at h; cases h
   | false =>
    have h37 : ((s.getD i 0).toNat : Int) = 37 := by simpa using hq
    have : (s.getD i 0).toNat = 37 := by omega
    unfold ascB
    rw [this]
    have h60 : s.getD i 0 ≠ 60 := fun e => by rw [e] at this; cases this
    simp [bne_iff_ne, h60]
    exact (by simpa using h60)) _
theorem escP_ok2 (s : List UInt8) (hs : s.length ≤ 17592186044416) (hr2 : (rpP s).length ≤ 107374182) : CallOK Tryz.prog 20 [.str s] [] (.ret (.str (escP s)) []) := by
 have hr := repB_rp s
 have c1 := Bld.adds_can ((repB s).map escC) (Bld.new_can 0 2)
 have t1 : (escE Bld.new (repB s)).t = escP s := by
  unfold escE
  rw [Bld.adds_t, map_flatten, hr]; rfl
 have hl2 : (escP s).length ≤ 5 * (rpP s).length := flat_len escC 5 escC_len (rpP s)
 have key := fun k => (esc_fun repB escE s k (repB s) (byt_decL false (repB s)).symm _ rfl _ rfl (escE Bld.new (repB s)).t rfl).trans
  ((congrArg (fun c => cond c _ none) (dT hs)).trans ((cond_true _ _).trans
  ((congrArg (fun c => cond c _ none) (tst_true ⟨⟨Bld.new_can 0 2, rfl, rfl, by rw [hr]; omega⟩, .refl _, by trivial⟩)).trans ((cond_true _ _).trans
  ((congrArg (fun c => cond c _ none) (tst_true ⟨⟨c1, by rw [t1]; omega⟩, .refl _, by trivial⟩)).trans (cond_true _ _))))))
 rw [← t1]
 exact layEs_ok.callF rfl key
theorem fSE_ok : ∀ xs H k out, fSE escP xs H k = some out → ∃ o, CallOK Tryz.prog 20 xs H o ∧ k o = some out := mkFS_ok fun ys xs e h => by
 obtain ⟨s, rfl⟩ : ∃ s, xs = [.str s] := ⟨_, e⟩
 obtain ⟨h1, h2⟩ : s.length ≤ 17592186044416 ∧ (rpP s).length ≤ 107374182 := of_decide_eq_true h
 exact ⟨_, fun k => rfl, escP_ok2 s h1 h2⟩
theorem fSS_ok {P : Program} {R : List UInt8 → List UInt8} {n : Nat} {f : FuncId} (h : ∀ s, s.length ≤ n → CallOK P f [.str s] [] (.ret (.str (R s)) [])) : ∀ xs H k out, fSS R n xs H k = some out → ∃ o, CallOK P f xs H o ∧ k o = some out := mkFS_ok fun ys xs e h' => by
 obtain ⟨s, rfl⟩ : ∃ s, xs = [.str s] := ⟨_, e⟩
 exact ⟨_, fun k => rfl, h s (of_decide_eq_true h')⟩
def schFP (s : List UInt8) : List UInt8 := bif (bif (schemeM s).snd then !bif bif (schemeM s).fst == [104, 116, 116, 112] then true else (schemeM s).fst == [104, 116, 116, 112, 115] then true else (schemeM s).fst == [109, 97, 105, 108, 116, 111] else false) then [35, 90, 103, 111, 116, 109, 112, 108, 90] else normP s
theorem laySf_ok : (laySf normP).OK Tryz.prog := (Lay.nil_ok.addF schTold_ok).addF (fSS_ok normP_ok)
theorem schFP_ok (s : List UInt8) (h : s.length ≤ 26843545) : CallOK Tryz.prog 43 [.str s] [] (.ret (.str (schFP s)) []) := laySf_ok.callF (G := []) rfl (fun k => (schF_fun normP s k).trans (by
 rw [dT (show s.length ≤ 1099511627776 by omega), dT h, cond_true, cond_true]
 unfold schFP
 cases (bif (schemeM s).snd then !bif bif (schemeM s).fst == [104, 116, 116, 112] then true else (schemeM s).fst == [104, 116, 116, 112, 115] then true else (schemeM s).fst == [109, 97, 105, 108, 116, 111] else false) <;> rfl))
theorem schFP_asc (s : List UInt8) : ascL (schFP s) := by
 unfold schFP
 cases (bif (schemeM s).snd then !bif bif (schemeM s).fst == [104, 116, 116, 112] then true else (schemeM s).fst == [104, 116, 116, 112, 115] then true else (schemeM s).fst == [109, 97, 105, 108, 116, 111] else false)
 · exact normP_asc s
 · show ascL [35, 90, 103, 111, 116, 109, 112, 108, 90]
   exact ascL_of (by decide)
theorem schFP_len (s : List UInt8) : (schFP s).length ≤ 12 * s.length + 9 := by
 unfold schFP
 have := normP_len s
 cases (bif (schemeM s).snd then !bif bif (schemeM s).fst == [104, 116, 116, 112] then true else (schemeM s).fst == [104, 116, 116, 112, 115] then true else (schemeM s).fst == [109, 97, 105, 108, 116, 111] else false)
 · simp only [cond_false]; omega
 · simp
theorem okE_asc {s : List UInt8} (h : ascL s) (hl : s.length ≤ 107374182) : okE s = true := by
 unfold okE
 rw [rp_asc h]
 exact dT ⟨by omega, hl⟩
theorem okE_len {s : List UInt8} (hl : s.length ≤ 26843545) : okE s = true := by
 unfold okE
 have := rpP_len s
 exact dT ⟨by omega, by omega⟩
def plP (e : Int) (s : List UInt8) : List UInt8 := if e = 1 ∨ e = 2 ∨ e = 3 then escP s else if e = 4 then escP (schFP s) else if e = 5 then escP (normP s) else if e = 6 then escP (pencP s) else if e = 8 then jsE s else if e = 10 then escP (jsE s) else if e = 11 then cssF s else if e = 12 then escP (cssF s) else []
theorem cssF_len (s : List UInt8) : (cssF s).length ≤ s.length + 8 := by
 unfold cssF
 cases plainM s
 · simp
 · simp
theorem layPl1_ok : (layPl1 escP schFP normP pencP jsE cssF).OK Tryz.prog :=
 (((((Lay.nil_ok.addF fSE_ok).addF (fSS_ok schFP_ok)).addF (fSS_ok normP_ok)).addF (fSS_ok pencP_ok)).addF (fSS_ok jsE_ok)).addF (fSS_ok (fun s h => cssF_ok s (by omega)))
theorem fplain_ok (e : Int) (s : List UInt8) (h1 : 1 ≤ e) (h12 : e ≤ 12) (hs : s.length ≤ 4194304) : CallOK Tryz.prog 22 [.int .i64 e, .str s] [] (.ret (.str (plP e s)) []) := by
 have l1 := schFP_len s
 have l2 := normP_len s
 have l3 := pencP_len s
 have l4 : (jsE s).length ≤ 12 * s.length := by
  have := qT_len (chP s)
  have := chP_len s
  unfold jsE; omega
 have l5 := cssF_len s
 have o0 : okE s = true := okE_len (by omega)
 have o1 : okE (schFP s) = true := okE_asc (schFP_asc s) (by omega)
 have o2 : okE (normP s) = true := okE_asc (normP_asc s) (by omega)
 have o3 : okE (pencP s) = true := okE_asc (pencP_asc s) (by omega)
 have o4 : okE (jsE s) = true := okE_asc (jsE_asc s) (by omega)
 have o5 : okE (cssF s) = true := okE_len (by omega)
 have hs2 : decide (s.length ≤ 26843545) = true := dT (by omega)
 refine layPl1_ok.callF (G := []) rfl (fun k => (fplain_fun escP schFP normP pencP jsE cssF e s k).trans ?_)
 simp only [o0, o1, o2, o3, o4, o5, hs2, cond_true]
 obtain ⟨m, rfl⟩ : ∃ m : Nat, e = m := ⟨e.toNat, by omega⟩
 have hm : m < 13 := by omega
 match m, hm with
 | 0, _ => omega
 | 1, _ => rfl
 | 2, _ => rfl
 | 3, _ => rfl
 | 4, _ => rfl
 | 5, _ => rfl
 | 6, _ => rfl
 | 7, _ => rfl
 | 8, _ => rfl
 | 9, _ => rfl
 | 10, _ => rfl
 | 11, _ => rfl
 | 12, _ => rfl
theorem pnTold_ok : ∀ xs H k out, pnTold plP xs H k = some out → ∃ o, CallOK Tryz.prog 22 xs H o ∧ k o = some out := mkFS_ok fun ys xs e h => by
 obtain ⟨n, s, rfl⟩ : ∃ n s, xs = [.int .i64 n, .str s] := ⟨_, _, e⟩
 have h2 : 1 ≤ n ∧ n ≤ 12 ∧ s.length ≤ 4194304 := of_decide_eq_true h
 exact ⟨_, fun k => rfl, fplain_ok n s h2.1 h2.2.1 h2.2.2⟩
theorem saTold_ok : ∀ xs H k out, saTold safeB xs H k = some out → ∃ o, CallOK Tryz.prog 13 xs H o ∧ k o = some out := mkFS_ok fun ys xs e h => by
 obtain ⟨n, m, rfl⟩ : ∃ n m, xs = [.int .i64 n, .int .i64 m] := ⟨_, _, e⟩
 exact ⟨_, fun k => rfl, fsafe_ok n m⟩
def toV (d : Nat) (v : VaD) : List UInt8 := if v.kind = 0 then [] else prV d v
def toR (d : Nat) (x : List AVal) : List UInt8 := toV d (decVa x)
theorem toR_enc (d : Nat) (v : VaD) : toR d (encVa v) = toV d v := by unfold toR; rw [decVa_enc]
theorem toTold_ok (d : Nat) : ∀ xs H k out, pvTold (PvD d) (toR d) xs H k = some out → ∃ o, CallOK Tryz.prog 23 xs H o ∧ k o = some out := vrTold_ok (ok := PvD d) (post := fun x k => k (.ret (.str (toR d x)) [])) fun x h => ⟨_, fun k => rfl, by
 have h1 : x = encVa (decVa x) := h.1.1
 generalize hv : decVa x = v at h1
 subst h1
 rw [toR_enc]
 refine Lay.OK.callF (L := layTo (PvD d) (prR d)) (Lay.nil_ok.addF (pvTold_ok d)) (G := []) rfl (fun k => (ftold_fun (PvD d) (prR d) v k).trans ?_)
 unfold toV
 by_cases h0 : v.kind = 0
 · rw [if_pos h0, h0]; rfl
 · rw [if_neg h0, beq_false_of_ne h0, cond_false]
   refine (congrArg (fun c => cond c _ none) (tst_true ⟨h, .refl _, rfl⟩)).trans ((cond_true _ _).trans ?_)
   show k (.ret (.str (prR d (encVa v))) []) = _
   rw [prR_enc]⟩
def chkR (d : Nat) (x : List AVal) : Int := nestV d (decVa x) 16
theorem chkR_enc (d : Nat) (v : VaD) : chkR d (encVa v) = nestV d v 16 := by unfold chkR; rw [decVa_enc]
theorem ckTold_ok (d : Nat) : ∀ xs H k out, ckTold (WvD d) (chkR d) xs H k = some out → ∃ o, CallOK Tryz.prog 19 xs H o ∧ k o = some out := vrTold_ok (ok := WvD d) (post := fun x k => k (.ret (.int .i64 (chkR d x)) [])) fun x h => ⟨_, fun k => rfl, by
 have h1 : x = encVa (decVa x) := h.1
 generalize hv : decVa x = v at h1
 subst h1
 refine Lay.OK.callF (L := layCk (WvD d) (nestR d)) (Lay.nil_ok.addF (nsTold_ok d)) (G := []) rfl (fun k => (vchk_fun (WvD d) (nestR d) v k).trans ?_)
 exact (congrArg (fun c => cond c _ none) (tst_true ⟨⟨h, by decide, by decide⟩, .refl _, rfl⟩)).trans (cond_true _ _)⟩
theorem kd_of_nest : ∀ (d : Nat) (v : VaD) (c : Int), wfVal d v → nestV d v c = 0 → kdV d v
 | 0, v, c, hw, _ => absurd hw (by unfold wfVal; exact id)
 | d + 1, v, c, hw, h => by
  have body : ∀ c, nestB (nestV d) v c = 0 → kdV (d + 1) v := fun c hb => by
   unfold nestB at hb
   cases h1 : decide ((v.text.length : Int) > 4096) with
   | true => rw [h1] at hb; cases hb
   | false =>
   cases h2 : (bif decide ((v.ln : Int) > 1024) then true else decide ((v.keys.length : Int) > 1024)) with
   | true => rw [h1, h2] at hb; cases hb
   | false =>
   cases h3 : (bif !usedB v then true else !keysB v) with
   | true => rw [h1, h2, h3] at hb; cases hb
   | false =>
   rw [h1, h2, h3] at hb
   simp only [cond_false] at hb
   have hu : usedB v = true := by
    cases hu : usedB v with
    | true => rfl
    | false => rw [hu] at h3; cases h3
   refine ⟨?_, fun x hx => ?_⟩
   · unfold usedB at hu
     cases h4 : (bif decide (v.kind ≥ 0) then decide (v.kind ≤ 11) else false) with
     | false => rw [h4] at hu; simp at hu
     | true =>
      by_cases h5 : v.kind ≥ 0
      · rw [dT h5, cond_true] at h4
        exact ⟨h5, of_decide_eq_true h4⟩
      · rw [dF h5] at h4; cases h4
   · have hw2 := hw.2.2.2 x hx
     refine kd_of_nest d x c hw2 ?_
     cases h6 : (vals v.list).any (fun x => nestV d x c != 0) with
     | false =>
      have := List.any_eq_false.1 h6 x hx
      simpa using this
     | true =>
      rw [h6, cond_true] at hb
      obtain ⟨y, hy, hy2⟩ := List.any_eq_true.1 h6
      have hlt := List.findIdx_lt_length_of_exists (p := fun x => nestV d x c != 0) ⟨y, hy, hy2⟩
      have := List.findIdx_getElem (w := hlt)
      rw [List.getD_eq_getElem?_getD, List.getElem?_eq_getElem hlt, Option.getD_some] at hb
      rw [hb] at this
      simp at this
  unfold nestV at h
  cases hb : (bif v.kind == 5 then true else v.kind == 6) with
  | true =>
   rw [hb, cond_true] at h
   cases hc : decide (c - 1 < 0) with
   | true => rw [hc] at h; cases h
   | false => rw [hc] at h; exact body _ h
  | false => rw [hb, cond_false] at h; exact body _ h
end Go.Mu
namespace Go.Mu
open Go Go.Proofs
def blnk (s : List UInt8) : List UInt8 := 32 :: (s ++ [32])
def apT (d : Nat) (e : Int) (v : VaD) : List UInt8 :=
 if safeB e v.kind = true then (if e = 1 ∨ e = 7 ∨ e = 11 then v.text else escP v.text) else if e = 7 then blnk (litV d v) else if e = 9 then escP (blnk (litV d v)) else plP e (toV d v)
def apE (d : Nat) (e : Int) (v : VaD) : Int := if e < 1 ∨ e > 12 then 4 else nestV d v 16
def apV (d : Nat) (e : Int) (v : VaD) : List UInt8 := if apE d e v = 0 then apT d e v else []
theorem layAp_ok (d : Nat) : (layAp (WvD d) (PvD d) (chkR d) safeB escP (ltR d) (toR d) plP).OK Tryz.prog :=
 (((((Lay.nil_ok.addF (ckTold_ok d)).addF saTold_ok).addF fSE_ok).addF (ltTold_ok d)).addF (toTold_ok d)).addF pnTold_ok
theorem toV_len (d : Nat) (v : VaD) (hs : szV d v ≤ 16777216) : (toV d v).length ≤ 4194304 := by
 unfold toV
 have := prV_len d v
 split
 · simp
 · omega
theorem sz_text {d : Nat} {v : VaD} (hw : wfVal d v) (hs : szV d v ≤ 16777216) : v.text.length ≤ 1048576 := by
 cases d with
 | zero => exact absurd hw (by unfold wfVal; exact id)
 | succ d => unfold szV at hs; omega
theorem apply_ok (d : Nat) (e : Int) (v : VaD) (hw : wfVal d v) (hs : szV d v ≤ 16777216) : CallOK Tryz.prog 11 [.int .i64 e, .agg (encVa v)] [] (.ret (.tuple [.str (apV d e v), .int .i64 (apE d e v)]) []) := by
 have hW := WvD_enc hw hs
 have en := chkR_enc d v
 have el := ltR_enc d v
 have et := toR_enc d v
 have hl := litV_len d v
 have ht := toV_len d v hs
 have hx := sz_text hw hs
 have key := fun k => fapply_fun (WvD d) (PvD d) (chkR d) safeB escP (ltR d) (toR d) plP e v k
 unfold apV apE
 by_cases hr : e < 1 ∨ e > 12
 · have hb : (bif decide (e < 1) then true else decide (e > 12)) = true := by
    rcases hr with h | h
    · rw [dT h]; rfl
    · rw [dT h]; simp
   rw [if_pos hr, if_neg (by decide)]
   refine (layAp_ok d).callF (G := []) rfl (fun k => (key k).trans ?_)
   rw [hb]; rfl
 have hb : (bif decide (e < 1) then true else decide (e > 12)) = false := by
  rw [dF (by omega), dF (by omega)]; rfl
 rw [if_neg hr]
 refine (layAp_ok d).callF (G := []) rfl (fun k => (key k).trans ?_)
 simp only [hb, cond_false]
 refine (congrArg (fun c => cond c _ none) (tst_true ⟨hW, .refl _, by trivial⟩)).trans ((cond_true _ _).trans ?_)
 show cond (chkR d (encVa v) != 0) (k (.ret (.tuple [.str [], .int .i64 (chkR d (encVa v))]) [])) _ = _
 rw [en]
 by_cases hn : nestV d v 16 = 0
 · rw [hn, if_pos rfl]
   show cond (bif safeB e v.kind then bif bif e == 1 then true else e == 7 then true else e == 11 else false) _ _ = _
   have hP : PvD d (encVa v) := PvD_enc ⟨hw, hs, kd_of_nest d v 16 hw hn⟩
   unfold apT
   cases hsf : safeB e v.kind with
   | true =>
    rw [if_pos rfl]
    have e3 : (bif bif e == 1 then true else e == 7 then true else e == 11) = decide (e = 1 ∨ e = 7 ∨ e = 11) := by
     by_cases h1 : e = 1
     · subst h1; rfl
     by_cases h7 : e = 7
     · subst h7; rfl
     by_cases h11 : e = 11
     · subst h11; rfl
     rw [beq_false_of_ne h1, beq_false_of_ne h7, beq_false_of_ne h11, dF (by omega)]; rfl
    rw [cond_true, e3]
    by_cases h3 : e = 1 ∨ e = 7 ∨ e = 11
    · rw [dT h3, if_pos h3]; rfl
    · rw [dF h3, if_neg h3, cond_false, cond_true]
      exact (congrArg (fun c => cond c _ none) (okE_len (s := v.text) (by omega))).trans rfl
   | false =>
    rw [cond_false, cond_false, cond_false, if_neg (by simp)]
    by_cases h7 : e = 7
    · rw [if_pos h7]
      have : (e == 7) = true := by rw [h7]; rfl
      rw [this, cond_true]
      refine (congrArg (fun c => cond c _ none) (tst_true ⟨hW, .refl _, by trivial⟩)).trans ((cond_true _ _).trans ?_)
      show cond (decide (1 + (ltR d (encVa v)).length ≤ 4611686018427387904)) (cond (decide ((32 :: ltR d (encVa v)).length + 1 ≤ 4611686018427387904)) (k (.ret (.tuple [.str (32 :: (ltR d (encVa v) ++ [32])), .int .i64 0]) [])) none) none = _
      rw [el, List.length_cons, dT (by omega), dT (by omega)]
      rfl
    · rw [if_neg h7, beq_false_of_ne h7, cond_false]
      by_cases h9 : e = 9
      · rw [if_pos h9]
        have : (e == 9) = true := by rw [h9]; rfl
        rw [this, cond_true]
        refine (congrArg (fun c => cond c _ none) (tst_true ⟨hW, .refl _, by trivial⟩)).trans ((cond_true _ _).trans ?_)
        show cond (decide (1 + (ltR d (encVa v)).length ≤ 4611686018427387904)) (cond (decide ((32 :: ltR d (encVa v)).length + 1 ≤ 4611686018427387904)) (cond (okE (32 :: (ltR d (encVa v) ++ [32]))) (k (.ret (.tuple [.str (escP (32 :: (ltR d (encVa v) ++ [32]))), .int .i64 0]) [])) none) none) none = _
        rw [el, List.length_cons, dT (by omega), dT (by omega), okE_len (by simp; omega)]
        rfl
      · rw [if_neg h9, beq_false_of_ne h9, cond_false]
        refine (congrArg (fun c => cond c _ none) (tst_true ⟨hP, .refl _, by trivial⟩)).trans ((cond_true _ _).trans ?_)
        show cond (decide (1 ≤ e ∧ e ≤ 12 ∧ (toR d (encVa v)).length ≤ 4194304)) (k (.ret (.tuple [.str (plP e (toR d (encVa v))), .int .i64 0]) [])) none = _
        rw [et, dT ⟨by omega, by omega, ht⟩]
        rfl
 · rw [if_neg hn]
   have : (nestV d v 16 != 0) = true := by simpa using hn
   rw [this]
   rfl
def canC (x : List AVal) : List AVal := encVa (decVa x)
noncomputable def apTold (W : List AVal → Prop) (A : Int → List AVal → List UInt8) (X : Int → List AVal → Int) : FSp := mkF (fun xs H => (aI xs 0, cellsA (xs.getD 1 .undef))) (fun a => W (canC a.2)) (fun a => [.int .i64 a.1, .agg (canC a.2)]) (fun _ => []) (fun a k => k (.ret (.tuple [.str (A a.1 a.2), .int .i64 (X a.1 a.2)]) []))
def apRV (d : Nat) (e : Int) (x : List AVal) : List UInt8 := apV d e (decVa x)
def apRE (d : Nat) (e : Int) (x : List AVal) : Int := apE d e (decVa x)
theorem apTold_ok (d : Nat) : ∀ xs H k out, apTold (WvD d) (apRV d) (apRE d) xs H k = some out → ∃ o, CallOK Tryz.prog 11 xs H o ∧ k o = some out := by
 unfold apTold
 exact mkF_ok fun a h => ⟨_, fun k => rfl, by
  obtain ⟨e, x⟩ := a
  have h : WvD d (encVa (decVa x)) := h
  have h2 := h.2
  rw [decVa_enc] at h2
  exact apply_ok d e (decVa x) h2.1 h2.2⟩
end Go.Mu
namespace Go.Mu
open Go Go.Proofs
abbrev ApA := Int → List AVal → List UInt8
abbrev ApX := Int → List AVal → Int
noncomputable def layL1 (W : List AVal → Prop) (A : ApA) (X : ApX) (B : Int → Int → Bool) : Lay := (Lay.nil.addF 11 (apTold W A X)).addF 13 (saTold B)
theorem alive23_fun (W : List AVal → Prop) (A : ApA) (X : ApX) (B : Int → Int → Bool) (k : Out → Ans) : iFun Tryz.prog ((layL1 W A X B).hd Tryz.prog) (layL1 W A X B).fhs 0 4 [] [] k = (
 bif tst (W (canC (cellsA (AVal.agg [AVal.int .i64 4, AVal.int .i64 0, AVal.str [60], AVal.list true 0 fun (x : Nat) => [], AVal.list true 0 fun (x : Nat) => []]))) ∧ SubL [AVal.int .i64 1, AVal.agg [AVal.int .i64 4, AVal.int .i64 0, AVal.str [60], AVal.list true 0 fun (x : Nat) => [], AVal.list true 0 fun (x : Nat) => []]] [AVal.int .i64 1, AVal.agg (canC (cellsA (AVal.agg [AVal.int .i64 4, AVal.int .i64 0, AVal.str [60], AVal.list true 0 fun (x : Nat) => [], AVal.list true 0 fun (x : Nat) => []])))] ∧ ([] : Heap) = []) then k (Out.ret (AVal.bool (bif bif X 1 (cellsA (AVal.agg [AVal.int .i64 4, AVal.int .i64 0, AVal.str [60], AVal.list true 0 fun (x : Nat) => [], AVal.list true 0 fun (x : Nat) => []])) == 0 then A 1 (cellsA (AVal.agg [AVal.int .i64 4, AVal.int .i64 0, AVal.str [60], AVal.list true 0 fun (x : Nat) => [], AVal.list true 0 fun (x : Nat) => []])) == [38, 108, 116, 59] else false then B 1 7 else false)) []) else none) := by kernel_rfl
def aliveT : FSp := mkFS [] (fun _ => true) (fun _ k => k (.ret (.bool true) []))
noncomputable def vpTold (W : List AVal → Prop) (B : List AVal → Bool) : FSp := vrTold W (fun x k => k (.ret (.bool (B x)) []))
noncomputable def vpSp (V : List AVal → Prop) (L : List AVal → Bool) : LSp := mkL (fun vs bs H => bs.getD 0 []) (fun x => V x) (fun x => [.ptr (.tmp 1) 0, .int .i64 0]) (fun x => [x]) (fun _ => [])
 (fun x k => cond (L x) (k .ret [.ptr (.tmp 1) 0, .bool false] [x] []) (k (.exit 0) [.ptr (.tmp 1) 0, .undef] [x] []))
noncomputable def vpFH (V : List AVal → Prop) (L : List AVal → Bool) : FH := .of [(2, loopSpec 21 [1,3] [1] [1,2] [1] (vpSp V L))]
noncomputable def layVp0 (W : List AVal → Prop) (B : List AVal → Bool) : Lay := Lay.nil.addF 10 (vpTold W B)
theorem vp_step (W : List AVal → Prop) (B : List AVal → Bool) (V : List AVal → Prop) (L : List AVal → Bool) (kd n : Int) (t : List UInt8) (f : Bool) (q : Nat) (g : Nat → VaD) (kf : Bool) (ks : List (List UInt8)) (i : Int) (D : List (FuncId × List AVal)) (k : Kont) : lturn Tryz.prog (layVp0 W B) (vpFH V L) 10 2 [1,3] [1] [1,2] [1] (stL 21 [1,3] [.ptr (.tmp 1) 0, .int .i64 i] [1] [encVa ⟨kd, n, t, f, q, fun i => encVa (g i), kf, ks⟩] [] D) k = (
 let c0 : Bool := decide (i < (↑q : Int));
  bif c0 then bif decide (0 ≤ i) && c0 then bif tst (W (cellsA (AVal.agg [AVal.int .i64 (g i.toNat).kind, AVal.int .i64 (g i.toNat).int, AVal.str (g i.toNat).text, AVal.list (g i.toNat).lf (g i.toNat).ln (g i.toNat).lr, AVal.list (g i.toNat).kf (g i.toNat).keys.length fun (i_1 : Nat) => [AVal.str ((g i.toNat).keys.getD i_1 [])]])) ∧ SubL [AVal.agg [AVal.int .i64 (g i.toNat).kind, AVal.int .i64 (g i.toNat).int, AVal.str (g i.toNat).text, AVal.list (g i.toNat).lf (g i.toNat).ln (g i.toNat).lr, AVal.list (g i.toNat).kf (g i.toNat).keys.length fun (i_1 : Nat) => [AVal.str ((g i.toNat).keys.getD i_1 [])]]] [AVal.agg (cellsA (AVal.agg [AVal.int .i64 (g i.toNat).kind, AVal.int .i64 (g i.toNat).int, AVal.str (g i.toNat).text, AVal.list (g i.toNat).lf (g i.toNat).ln (g i.toNat).lr, AVal.list (g i.toNat).kf (g i.toNat).keys.length fun (i_1 : Nat) => [AVal.str ((g i.toNat).keys.getD i_1 [])]]))] ∧ ([] : Heap) = []) then bif !B (cellsA (AVal.agg [AVal.int .i64 (g i.toNat).kind, AVal.int .i64 (g i.toNat).int, AVal.str (g i.toNat).text, AVal.list (g i.toNat).lf (g i.toNat).ln (g i.toNat).lr, AVal.list (g i.toNat).kf (g i.toNat).keys.length fun (i_1 : Nat) => [AVal.str ((g i.toNat).keys.getD i_1 [])]])) then k AExit.ret (stL 21 [1, 2] [AVal.ptr (Oid.tmp 1) 0, AVal.bool false] [1] [[AVal.int .i64 kd, AVal.int .i64 n, AVal.str t, AVal.list f q fun (i : Nat) => encVa (g i), AVal.list kf ks.length fun (i : Nat) => [AVal.str (ks.getD i [])]]] [] D) else k AExit.normal (stL 21 [1, 3] [AVal.ptr (Oid.tmp 1) 0, AVal.int .i64 (IntKind.i64.wrap (i + 1))] [1] [[AVal.int .i64 kd, AVal.int .i64 n, AVal.str t, AVal.list f q fun (i : Nat) => encVa (g i), AVal.list kf ks.length fun (i : Nat) => [AVal.str (ks.getD i [])]]] [] D) else none else none else k (AExit.exit 0) (stL 21 [1, 2] [AVal.ptr (Oid.tmp 1) 0, AVal.undef] [1] [[AVal.int .i64 kd, AVal.int .i64 n, AVal.str t, AVal.list f q fun (i : Nat) => encVa (g i), AVal.list kf ks.length fun (i : Nat) => [AVal.str (ks.getD i [])]]] [] D)) := by kernel_rfl
noncomputable def layVp (W : List AVal → Prop) (B : List AVal → Bool) (V : List AVal → Prop) (L : List AVal → Bool) : Lay := (layVp0 W B).addL 10 (vpFH V L)
theorem vp_fun (W : List AVal → Prop) (B : List AVal → Bool) (V : List AVal → Prop) (L : List AVal → Bool) (v : VaD) (k : Out → Ans) : iFun Tryz.prog ((layVp W B V L).hd Tryz.prog) (layVp W B V L).fhs 0 10 [.agg (encVa v)] [] k = (
 let z0 := [AVal.ptr (Oid.tmp 1) 0, AVal.int .i64 0];
  bif tst (V [AVal.int .i64 v.kind, AVal.int .i64 v.int, AVal.str v.text, AVal.list v.lf v.ln v.lr, AVal.list v.kf v.keys.length fun (i : Nat) => [AVal.str (v.keys.getD i [])]] ∧ SubTL z0 z0 ∧ [[AVal.int .i64 v.kind, AVal.int .i64 v.int, AVal.str v.text, AVal.list v.lf v.ln v.lr, AVal.list v.kf v.keys.length fun (i : Nat) => [AVal.str (v.keys.getD i [])]]] = [[AVal.int .i64 v.kind, AVal.int .i64 v.int, AVal.str v.text, AVal.list v.lf v.ln v.lr, AVal.list v.kf v.keys.length fun (i : Nat) => [AVal.str (v.keys.getD i [])]]] ∧ ([] : Heap) = []) then bif L [AVal.int .i64 v.kind, AVal.int .i64 v.int, AVal.str v.text, AVal.list v.lf v.ln v.lr, AVal.list v.kf v.keys.length fun (i : Nat) => [AVal.str (v.keys.getD i [])]] then k (Out.ret (AVal.bool false) []) else k (Out.ret (AVal.bool (decide (v.kind < 7))) []) else none) := by kernel_rfl
end Go.Mu
namespace Go.Mu
open Go Go.Proofs
def leafV (kd : Int) (s : List UInt8) : VaD := ⟨kd, 0, s, true, 0, fun _ => [], true, []⟩
abbrev leafK (kd : Int) : Prop := kd = 4 ∨ 7 ≤ kd ∧ kd ≤ 11
theorem leaf_vals (kd : Int) (s : List UInt8) : vals (leafV kd s).list = [] := rfl
theorem leaf_wf (kd : Int) (s : List UInt8) : wfVal 1 (leafV kd s) := by
 refine ⟨by show (-9223372036854775808 : Int) ≤ 0; omega, by show (0 : Int) ≤ 9223372036854775807; omega, rfl, fun x hx => ?_⟩
 rw [leaf_vals] at hx
 cases hx
theorem leaf_sz (kd : Int) (s : List UInt8) : szV 1 (leafV kd s) = 96 + 16 * s.length := by
 unfold szV
 rw [leaf_vals]
 simp [leafV]
theorem leaf_nest {kd : Int} {s : List UInt8} (hk : leafK kd) (hs : s.length ≤ 4096) (c : Int) : nestV 1 (leafV kd s) c = 0 := by
 have hu : usedB (leafV kd s) = true := by
  unfold usedB
  obtain rfl | rfl | rfl | rfl | rfl | rfl : kd = 4 ∨ kd = 7 ∨ kd = 8 ∨ kd = 9 ∨ kd = 10 ∨ kd = 11 := by omega
  all_goals rfl
 have hy : keysB (leafV kd s) = true := by
  unfold keysB
  obtain rfl | rfl | rfl | rfl | rfl | rfl : kd = 4 ∨ kd = 7 ∨ kd = 8 ∨ kd = 9 ∨ kd = 10 ∨ kd = 11 := by omega
  all_goals rfl
 have h56 : (bif (leafV kd s).kind == 5 then true else (leafV kd s).kind == 6) = false := by
  obtain rfl | rfl | rfl | rfl | rfl | rfl : kd = 4 ∨ kd = 7 ∨ kd = 8 ∨ kd = 9 ∨ kd = 10 ∨ kd = 11 := by omega
  all_goals rfl
 have hb : decide (((leafV kd s).text.length : Int) > 4096) = false := dF (by show ¬ (s.length : Int) > 4096; omega)
 unfold nestV nestB
 rw [h56, hb, hu, hy, leaf_vals]
 rfl
theorem leaf_to {kd : Int} {s : List UInt8} (hk : leafK kd) : toV 1 (leafV kd s) = s := by
 have k : (leafV kd s).kind = kd := rfl
 unfold toV prV
 rw [if_neg (by omega), if_neg (by omega), if_neg (by omega), if_neg (by omega), if_neg (by omega), if_neg (by omega), if_neg (by omega)]
 rfl
theorem leaf_lit {kd : Int} {s : List UInt8} (hk : leafK kd) : litV 1 (leafV kd s) = quoP s := by
 have k : (leafV kd s).kind = kd := rfl
 unfold litV
 rw [if_neg (by omega), if_neg (by omega), if_neg (by omega), if_neg (by omega), if_neg (by omega)]
 rfl
theorem leaf_ap {kd e : Int} {s : List UInt8} (hk : leafK kd) (hs : s.length ≤ 4096) (h1 : 1 ≤ e) (h12 : e ≤ 12) : apE 1 e (leafV kd s) = 0 ∧ apV 1 e (leafV kd s) = (if safeB e kd = true then (if e = 1 ∨ e = 7 ∨ e = 11 then s else escP s) else if e = 7 then blnk (quoP s) else if e = 9 then escP (blnk (quoP s)) else plP e s) := by
 have hE : apE 1 e (leafV kd s) = 0 := by unfold apE; rw [if_neg (by omega), leaf_nest hk hs]
 refine ⟨hE, ?_⟩
 unfold apV apT
 rw [hE, if_pos rfl, leaf_to hk, leaf_lit hk]
 rfl
theorem layL1_ok (d : Nat) : (layL1 (WvD d) (apRV d) (apRE d) safeB).OK Tryz.prog := (Lay.nil_ok.addF (apTold_ok d)).addF saTold_ok
abbrev leafR (kd : Int) (s : List UInt8) : List AVal := [.int .i64 kd, .int .i64 0, .str s, .list true 0 (fun _ => []), .list true 0 (fun _ => [])]
theorem leaf_dec (kd : Int) (s : List UInt8) : decVa (leafR kd s) = leafV kd s := rfl
theorem leaf_sub (kd : Int) (s : List UInt8) : Sub (.agg (leafR kd s)) (.agg (canC (leafR kd s))) := .agg (.cons (.refl _) (.cons (.refl _) (.cons (.refl _) (.cons (.refl _) (.cons (Sub.list (fun h => h) (fun i hi => by omega)) .nil)))))
theorem leaf_W (kd : Int) (s : List UInt8) (hs : s.length ≤ 4096) : WvD 1 (canC (leafR kd s)) := WvD_enc (v := leafV kd s) (leaf_wf kd s) (by rw [leaf_sz]; omega)
theorem alive23_ok : CallOK Tryz.prog 4 [] [] (.ret (.bool true) []) := by
 obtain ⟨a1, a2⟩ := leaf_ap (kd := 4) (e := 1) (s := [60]) (.inl rfl) (by simp) (by omega) (by omega)
 have e1 : apRE 1 1 (leafR 4 [60]) = 0 := by unfold apRE; rw [leaf_dec]; exact a1
 have e2 : apRV 1 1 (leafR 4 [60]) = [38, 108, 116, 59] := by
  unfold apRV
  rw [leaf_dec, a2]
  have : rpP [60] = [60] := by
   rw [← repB_rp]
   unfold repB
   exact repF_ascii [60] 1 (by simp) (fun c hc => by simp at hc; subst hc; decide)
  unfold plP escP
  rw [this]
  decide
 refine (layL1_ok 1).callF (G := []) rfl (fun k => (alive23_fun (WvD 1) (apRV 1) (apRE 1) safeB k).trans ?_)
 refine (congrArg (fun c => cond c _ none) (tst_true ⟨leaf_W 4 [60] (by simp), .cons (.refl _) (.cons (leaf_sub 4 [60]) .nil), rfl⟩)).trans ((cond_true _ _).trans ?_)
 show k (.ret (.bool (bif bif apRE 1 1 (leafR 4 [60]) == 0 then apRV 1 1 (leafR 4 [60]) == [38, 108, 116, 59] else false then safeB 1 7 else false)) []) = _
 rw [e1, e2]
 rfl
theorem aliveT_ok : ∀ xs H k out, aliveT xs H k = some out → ∃ o, CallOK Tryz.prog 4 xs H o ∧ k o = some out := mkFS_ok fun ys xs e h => by
 subst e
 exact ⟨_, fun k => rfl, alive23_ok⟩
end Go.Mu
namespace Go.Mu
open Go Go.Proofs
theorem ascL_cons {c : UInt8} {t : List UInt8} (hc : ascB c = true) (ht : ascL t) : ascL (c :: t) := fun x hx => by
 rcases List.mem_cons.1 hx with rfl | h
 · exact hc
 · exact ht x h
theorem digsF_asc : ∀ (f u : Nat) (t : List UInt8), ascL t → ascL (digsF f u t)
 | 0, u, t, h => h
 | f + 1, u, t, h => by
  have hd : ascB (UInt8.ofNat (48 + u % 10)) = true := by
   have key : ∀ m : Fin 10, ascB (UInt8.ofNat (48 + m.val)) = true := by decide
   exact key ⟨u % 10, by omega⟩
  unfold digsF
  cases u / 10 == 0
  · exact digsF_asc f (u / 10) _ (ascL_cons hd h)
  · exact ascL_cons hd h
theorem printM_asc (n : Int) : ascL (printM n) := by
 unfold printM
 cases decide (n < 0)
 · exact digsF_asc _ _ _ (ascL_of (by decide))
 · exact ascL_cons (by decide) (digsF_asc _ _ _ (ascL_of (by decide)))
theorem join_asc (b : UInt8) (hb : ascB b = true) : ∀ (l : List (List UInt8)), (∀ x ∈ l, ascL x) → ascL (Lib.join l [b])
 | [], _ => by rw [Lib.join_nil]; exact ascL_of (by decide)
 | [x], h => by rw [Lib.join_one]; exact h x (by simp)
 | x :: y :: l, h => by
  have ih := join_asc b hb (y :: l) (fun z hz => h z (List.mem_cons_of_mem _ hz))
  have e : Lib.join (x :: y :: l) [b] = x ++ [b] ++ Lib.join (y :: l) [b] := by
   unfold Lib.join
   simp [List.intercalate, List.intersperse]
  rw [e]
  exact ascL_app (ascL_app (h x (by simp)) (ascL_cons hb (ascL_of (by decide)))) ih
theorem litV_asc : ∀ (d : Nat) (v : VaD), ascL (litV d v)
 | 0, v => by unfold litV; exact ascL_of (by decide)
 | d + 1, v => by
  have hi : ∀ x ∈ lItems (litV d) v (vals v.list), ascL x := fun x hx => by
   unfold lItems at hx
   obtain ⟨i, _, rfl⟩ := List.mem_map.1 hx
   unfold lItem lKey
   refine ascL_app ?_ (litV_asc d _)
   split
   · exact ascL_app (quoP_asc _) (ascL_of (by decide))
   · exact ascL_of (by decide)
  have hj := join_asc 44 (by decide) _ hi
  unfold litV litL
  repeat' split
  all_goals first
   | exact ascL_of (by decide)
   | exact printM_asc _
   | exact quoP_asc _
   | exact ascL_cons (by decide) (printM_asc _)
   | exact ascL_cons (by decide) (ascL_app hj (ascL_of (by decide)))
def vplV : Nat → VaD → Bool
 | 0, _ => true
 | d + 1, v => !(vals v.list).any (fun x => !vplV d x) && decide (v.kind < 7)
def vplR (d : Nat) (x : List AVal) : Bool := vplV d (decVa x)
theorem vplR_enc (d : Nat) (v : VaD) : vplR d (encVa v) = vplV d v := by unfold vplR; rw [decVa_enc]
def canA (v : VaD) : VaD := { v with ln := (vals v.list).length, lr := fun i => encVa ((vals v.list).getD i va0) }
theorem canA_sub {d : Nat} {v : VaD} (h : WlD d v.list) : Sub (.agg (encVa v)) (.agg (encVa (canA v))) := by
 have hq : Sub v.list (encL (fullOf v.list) encVa va0 (vals v.list)) := sub_encL h.1 (fun r hr => by
  have h3 : r = encVa (decVa r) := of_tst hr
  have : SubL r r := .refl _
  rw [h3] at this
  rw [h3]
  rw [decVa_enc]
  exact .refl _)
 exact .agg (.cons (.refl _) (.cons (.refl _) (.cons (.refl _) (.cons hq (.refl _)))))
theorem canA_vals (v : VaD) : vals (canA v).list = vals v.list := decL_encL (f := encVa) (d := va0) (full := v.lf) decVa_enc (vals v.list)
def vplL (d : Nat) (x : List AVal) : Bool := (vals (decVa x).list).any (fun v => !vplV d v)
def PcD (d : Nat) (x : List AVal) : Prop := ∃ v : VaD, x = encVa (canA v) ∧ WlD d v.list
noncomputable abbrev vpTurn (d : Nat) := lturn Tryz.prog (layVp0 (WvD d) (vplR d)) (vpFH (PcD d) (vplL d)) 10 2 [1,3] [1] [1,2] [1]
theorem vp_rd (d : Nat) (v : VaD) (h : WlD d v.list) (i : Nat) (hi : i < (vals v.list).length) (D : List (FuncId × List AVal)) (k : Kont) :
 vpTurn d (stL 21 [1,3] [.ptr (.tmp 1) 0, .int .i64 (i : Nat)] [1] [encVa (canA v)] [] D) k = cond (!vplV d ((vals v.list).getD i va0)) (k .ret (stL 21 [1,2] [.ptr (.tmp 1) 0, .bool false] [1] [encVa (canA v)] [] D)) (k .normal (stL 21 [1,3] [.ptr (.tmp 1) 0, .int .i64 ((i + 1 : Nat) : Int)] [1] [encVa (canA v)] [] D)) := by
 have hl := WlD_len h
 have hm : (vals v.list).getD i va0 ∈ vals v.list := by rw [List.getD_eq_getElem?_getD, List.getElem?_eq_getElem hi]; exact List.getElem_mem hi
 obtain ⟨w1, w2⟩ := WlD_mem h hm
 refine (vp_step (WvD d) (vplR d) (PcD d) (vplL d) v.kind v.int v.text v.lf (vals v.list).length (fun i => (vals v.list).getD i va0) v.kf v.keys i D k).trans ?_
 have e1 : IntKind.i64.wrap ((i : Int) + 1) = ((i + 1 : Nat) : Int) := wrap_add1 (by omega)
 simp only [e1, dT (show (i : Int) < ((vals v.list).length : Nat) by omega), dT (show (0 : Int) ≤ (i : Int) by omega), Bool.and_self, cond_true, Int.toNat_natCast]
 refine (congrArg (fun b => cond b _ none) (tst_true ⟨WvD_enc w1 w2, .refl _, by trivial⟩)).trans ((cond_true _ _).trans ?_)
 show cond (!vplR d (encVa ((vals v.list).getD i va0))) _ _ = _
 rw [vplR_enc]
 rfl
theorem vpSp_ok (d : Nat) : SpOK (vpTurn d) 21 [1,3] [1] [1,2] [1] (vpSp (PcD d) (vplL d)) := mkL_ok fun x h => by
 obtain ⟨v, rfl, hw⟩ := h
 have hl := WlD_len hw
 have eL : vplL d (encVa (canA v)) = (vals v.list).any (fun v => !vplV d v) := by unfold vplL; rw [decVa_enc, canA_vals]
 show ∃ e vs bs H', (∀ k : AExit → List AVal → List (List AVal) → Heap → Ans, cond (vplL d (encVa (canA v))) _ _ = k e vs bs H') ∧ _
 rw [eL]
 have hf := find_getD (fun v => !vplV d v) (vals v.list) va0
 have hN : ∀ D k, vpTurn d (stL 21 [1,3] [.ptr (.tmp 1) 0, .int .i64 ((vals v.list).length : Nat)] [1] [encVa (canA v)] [] D) k = k (.exit 0) (stL 21 [1,2] [.ptr (.tmp 1) 0, .undef] [1] [encVa (canA v)] [] D) := fun D k => by
  refine (vp_step (WvD d) (vplR d) (PcD d) (vplL d) v.kind v.int v.text v.lf (vals v.list).length (fun i => (vals v.list).getD i va0) v.kf v.keys (vals v.list).length D k).trans ?_
  rw [dF (show ¬ ((vals v.list).length : Int) < ((vals v.list).length : Nat) by omega), cond_false]
  rfl
 cases ha : (vals v.list).any (fun v => !vplV d v) with
 | false =>
  rw [ha] at hf
  exact ⟨_, _, _, _, fun k => rfl, none_runs (fun i => [.ptr (.tmp 1) 0, .int .i64 (i : Nat)]) [encVa (canA v)] [] _ (vals v.list).length (by simp) (fun i hi D k => vp_rd d v hw i hi D k) hN hf⟩
 | true =>
  rw [ha] at hf
  exact ⟨_, _, _, _, fun k => rfl, find_runs (fun i => [.ptr (.tmp 1) 0, .int .i64 (i : Nat)]) [encVa (canA v)] [] _ (vals v.list).length (v1 := fun _ => [.ptr (.tmp 1) 0, .bool false]) (b1 := fun _ => [encVa (canA v)]) (H1 := fun _ => []) (by simp) (fun i hi D k => vp_rd d v hw i hi D k) hf⟩
theorem vpTold_ok : ∀ (d : Nat) xs H k out, vpTold (WvD d) (vplR d) xs H k = some out → ∃ o, CallOK Tryz.prog 10 xs H o ∧ k o = some out
 | 0 => vrTold_ok (ok := WvD 0) (post := fun x k => k (.ret (.bool (vplR 0 x)) [])) fun x h => absurd h.2.1 (by unfold wfVal; exact id)
 | d + 1 => vrTold_ok (ok := WvD (d + 1)) (post := fun x k => k (.ret (.bool (vplR (d + 1) x)) [])) fun x h => ⟨_, fun k => rfl, by
  obtain ⟨h1, h2, h3⟩ := h
  have h1 : x = encVa (decVa x) := h1
  generalize decVa x = v at h1 h2 h3
  subst h1
  rw [vplR_enc]
  have hl := wf_list h2 h3
  have hL : (layVp (WvD d) (vplR d) (PcD d) (vplL d)).OK Tryz.prog := Lay.OK.loop1 (Lay.nil_ok.addF (vpTold_ok d)) (id := 2) (by kernel_rfl) (by kernel_rfl) (by kernel_rfl) (vpSp_ok d)
  have eL : vplL d (encVa (canA v)) = (vals v.list).any (fun v => !vplV d v) := by unfold vplL; rw [decVa_enc, canA_vals]
  have key : CallOK Tryz.prog 10 [.agg (encVa (canA v))] [] (.ret (.bool (vplV (d + 1) v)) []) := hL.callF (G := []) rfl (fun k => (vp_fun (WvD d) (vplR d) (PcD d) (vplL d) (canA v) k).trans (by
   refine (congrArg (fun b => cond b _ none) (tst_true ⟨⟨v, rfl, hl⟩, .refl _, by trivial⟩)).trans ((cond_true _ _).trans ?_)
   show cond (vplL d (encVa (canA v))) _ _ = _
   rw [eL, show vplV (d + 1) v = (!(vals v.list).any (fun x => !vplV d x) && decide (v.kind < 7)) from rfl]
   cases (vals v.list).any (fun v => !vplV d v) <;> rfl))
  exact key.subArgs (.cons (canA_sub hl) .nil)⟩
theorem escP_le (s : List UInt8) : (escP s).length ≤ 20 * s.length := by
 have := flat_len escC 5 escC_len (rpP s)
 have := rpP_len s
 unfold escP escT; omega
theorem jsE_le (s : List UInt8) : (jsE s).length ≤ 12 * s.length := by
 have := qT_len (chP s)
 have := chP_len s
 unfold jsE; omega
theorem plP_le (e : Int) (s : List UInt8) : (plP e s).length ≤ 240 * s.length + 200 := by
 unfold plP
 split
 · have := escP_le s; omega
 split
 · have := escP_le (schFP s); have := schFP_len s; omega
 split
 · have := escP_le (normP s); have := normP_len s; omega
 split
 · have := escP_le (pencP s); have := pencP_len s; omega
 split
 · have := jsE_le s; omega
 split
 · have := escP_le (jsE s); have := jsE_le s; omega
 split
 · have := cssF_len s; omega
 split
 · have := escP_le (cssF s); have := cssF_len s; omega
 · simp
theorem apT_le (d : Nat) (e : Int) (v : VaD) (hw : wfVal d v) (hs : szV d v ≤ 16777216) : (apT d e v).length ≤ 1099511627776 := by
 have l1 := litV_len d v
 have l2 := toV_len d v hs
 have l3 := sz_text hw hs
 have b3 : (blnk (litV d v)).length = (litV d v).length + 2 := by unfold blnk; simp
 unfold apT
 split
 · split
   · omega
   · have := escP_le v.text; omega
 split
 · omega
 split
 · have := escP_le (blnk (litV d v)); omega
 · have := plP_le e (toV d v); omega
theorem apV_len (d : Nat) (e : Int) (v : VaD) (hw : wfVal d v) (hs : szV d v ≤ 16777216) : (apV d e v).length ≤ 1099511627776 := by
 have := apT_le d e v hw hs
 unfold apV
 split
 · exact this
 · simp
end Go.Mu
namespace Go.Mu
open Go Go.Proofs
def canK (x : AVal) : AVal := encSs (fullOf x) (decL decS x)
noncomputable def riTold (Wk : AVal → Prop) (R : AVal → Bool) : FSp := mkF (fun xs H => xs.getD 0 .undef) Wk (fun x => [canK x]) (fun _ => []) (fun x k => k (.ret (.bool (R x)) []))
noncomputable def riSp (Wk : AVal → Prop) (R : AVal → Bool) : LSp := mkL (fun vs bs H => vs.getD 0 .undef) Wk (fun x => [canK x, .int .i64 0]) (fun _ => []) (fun _ => []) (fun x k => cond (R x) (k (.exit 0) [.undef] [] []) (k .ret [.bool false] [] []))
noncomputable def riFH (Wk : AVal → Prop) (R : AVal → Bool) : FH := .of [(2, loopSpec 32 [0,3] [] [2] [] (riSp Wk R))]
noncomputable def layRi0 : Lay := Lay.nil.addF 61 rNameTold
theorem ri_step (Wk : AVal → Prop) (R : AVal → Bool) (f : Bool) (ks : List (List UInt8)) (i : Int) (D : List (FuncId × List AVal)) (k : Kont) : lturn Tryz.prog layRi0 (riFH Wk R) 33 2 [0,3] [] [2] [] (stL 32 [0,3] [encSs f ks, .int .i64 i] [] [] [] D) k = (
 let n0 : Int := (↑ks.length : Int);
 let c1 : Bool := decide (i < n0);
 let c2 : Bool := decide (0 ≤ i) && c1;
 let l3 : List UInt8 := ks.getD i.toNat [];
 let c4 : Bool := !nameB l3;
 let c5 : Bool := decide (i > 0);
 let c6 : Bool := !(!c4 && c5);
 let n7 : Int := IntKind.i64.wrap (i - 1);
 let l8 : List UInt8 := ks.getD n7.toNat [];
  bif c1 then bif c2 then bif decide (l3.length ≤ 4611686018427387903) then bif c2 || c6 then bif decide (0 ≤ n7) && decide (n7 < n0) || c6 then bif bif c4 then true else bif c5 then Op.bytesLess l3 l8 || l3 == l8 else false then k AExit.ret (stL 32 [2] [AVal.bool false] [] [] [] D) else k AExit.normal (stL 32 [0, 3] [AVal.list f ks.length fun (i : Nat) => [AVal.str (ks.getD i [])], AVal.int .i64 (IntKind.i64.wrap (i + 1))] [] [] [] D) else none else none else none else none else k (AExit.exit 0) (stL 32 [2] [AVal.undef] [] [] [] D)) := by kernel_rfl
noncomputable def layRi (Wk : AVal → Prop) (R : AVal → Bool) : Lay := layRi0.addL 33 (riFH Wk R)
theorem ri_fun (Wk : AVal → Prop) (R : AVal → Bool) (f : Bool) (ks : List (List UInt8)) (k : Out → Ans) : iFun Tryz.prog ((layRi Wk R).hd Tryz.prog) (layRi Wk R).fhs 0 33 [encSs f ks] [] k = (
 bif tst (Wk (AVal.list f ks.length fun (i : Nat) => [AVal.str (ks.getD i [])]) ∧ SubTL [AVal.list f ks.length fun (i : Nat) => [AVal.str (ks.getD i [])], AVal.int .i64 0] [canK (AVal.list f ks.length fun (i : Nat) => [AVal.str (ks.getD i [])]), AVal.int .i64 0] ∧ ([] : List (List AVal)) = [] ∧ ([] : Heap) = []) then bif R (AVal.list f ks.length fun (i : Nat) => [AVal.str (ks.getD i [])]) then k (Out.ret (AVal.bool true) []) else k (Out.ret (AVal.bool false) []) else none) := by kernel_rfl
noncomputable def ccSp (V : Int → List AVal → Prop) (L : List AVal → Int → Bool) (E : List AVal → Int → Int) : LSp := mkL (fun vs bs H => (aI vs 0, bs.getD 0 [])) (fun a => V a.1 a.2) (fun a => [.int .i64 a.1, .ptr (.tmp 2) 0, .int .i64 0]) (fun a => [a.2]) (fun _ => [])
 (fun a k => cond (L a.2 a.1) (k .ret [.int .i64 (E a.2 a.1)] [] []) (k (.exit 0) [.undef] [] []))
noncomputable def ccFH (V : Int → List AVal → Prop) (L : List AVal → Int → Bool) (E : List AVal → Int → Int) : FH := .of [(14, loopSpec 128 [1,2,7] [2] [4] [] (ccSp V L E))]
noncomputable def layCc0 (W : List AVal → Prop) (C : NsT) (Wk : AVal → Prop) (R : AVal → Bool) : Lay := (Lay.nil.addF 18 (nsTold W C)).addF 33 (riTold Wk R)
theorem cc_step (W : List AVal → Prop) (C : NsT) (Wk : AVal → Prop) (R : AVal → Bool) (V : Int → List AVal → Prop) (L : List AVal → Int → Bool) (E : List AVal → Int → Int) (kd n : Int) (t : List UInt8) (f : Bool) (q : Nat) (g : Nat → VaD) (kf : Bool) (ks : List (List UInt8)) (c i : Int) (D : List (FuncId × List AVal)) (k : Kont) : lturn Tryz.prog (layCc0 W C Wk R) (ccFH V L E) 18 14 [1,2,7] [2] [4] [] (stL 128 [1,2,7] [.int .i64 c, .ptr (.tmp 2) 0, .int .i64 i] [2] [encVa ⟨kd, n, t, f, q, fun i => encVa (g i), kf, ks⟩] [] D) k = (
 let c0 : Bool := decide (i < (↑q : Int));
 let n1 : Int := IntKind.i64.wrap (c + 1);
 let n2 : Int := C (cellsA (AVal.agg [AVal.int .i64 (g i.toNat).kind, AVal.int .i64 (g i.toNat).int, AVal.str (g i.toNat).text, AVal.list (g i.toNat).lf (g i.toNat).ln (g i.toNat).lr, AVal.list (g i.toNat).kf (g i.toNat).keys.length fun (i_1 : Nat) => [AVal.str ((g i.toNat).keys.getD i_1 [])]])) n1;
  bif c0 then bif decide (0 ≤ i) && c0 then bif tst ((W (cellsA (AVal.agg [AVal.int .i64 (g i.toNat).kind, AVal.int .i64 (g i.toNat).int, AVal.str (g i.toNat).text, AVal.list (g i.toNat).lf (g i.toNat).ln (g i.toNat).lr, AVal.list (g i.toNat).kf (g i.toNat).keys.length fun (i_1 : Nat) => [AVal.str ((g i.toNat).keys.getD i_1 [])]])) ∧ 0 ≤ n1 ∧ n1 ≤ 16) ∧ SubL [AVal.agg [AVal.int .i64 (g i.toNat).kind, AVal.int .i64 (g i.toNat).int, AVal.str (g i.toNat).text, AVal.list (g i.toNat).lf (g i.toNat).ln (g i.toNat).lr, AVal.list (g i.toNat).kf (g i.toNat).keys.length fun (i_1 : Nat) => [AVal.str ((g i.toNat).keys.getD i_1 [])]], AVal.int .i64 n1] [AVal.agg (cellsA (AVal.agg [AVal.int .i64 (g i.toNat).kind, AVal.int .i64 (g i.toNat).int, AVal.str (g i.toNat).text, AVal.list (g i.toNat).lf (g i.toNat).ln (g i.toNat).lr, AVal.list (g i.toNat).kf (g i.toNat).keys.length fun (i_1 : Nat) => [AVal.str ((g i.toNat).keys.getD i_1 [])]])), AVal.int .i64 n1] ∧ ([] : Heap) = []) then bif n2 != 0 then k AExit.ret (stL 128 [4] [AVal.int .i64 n2] [] [] [] D) else k AExit.normal (stL 128 [1, 2, 7] [AVal.int .i64 c, AVal.ptr (Oid.tmp 2) 0, AVal.int .i64 (IntKind.i64.wrap (i + 1))] [2] [[AVal.int .i64 kd, AVal.int .i64 n, AVal.str t, AVal.list f q fun (i : Nat) => encVa (g i), AVal.list kf ks.length fun (i : Nat) => [AVal.str (ks.getD i [])]]] [] D) else none else none else k (AExit.exit 0) (stL 128 [4] [AVal.undef] [] [] [] D)) := by kernel_rfl
noncomputable def layCc (W : List AVal → Prop) (C : NsT) (Wk : AVal → Prop) (R : AVal → Bool) (V : Int → List AVal → Prop) (L : List AVal → Int → Bool) (E : List AVal → Int → Int) : Lay := (layCc0 W C Wk R).addL 18 (ccFH V L E)
theorem cc_fun (W : List AVal → Prop) (C : NsT) (Wk : AVal → Prop) (R : AVal → Bool) (V : Int → List AVal → Prop) (L : List AVal → Int → Bool) (E : List AVal → Int → Int) (v : VaD) (c : Int) (k : Out → Ans) : iFun Tryz.prog ((layCc W C Wk R V L E).hd Tryz.prog) (layCc W C Wk R V L E).fhs 0 18 [.agg (encVa v), .int .i64 c] [] k = (
 let c0 : Bool := v.kind == 6;
 let c1 : Bool := bif v.kind == 5 then true else c0;
 let n2 : Int := (↑v.ln : Int);
 let m3 : Nat := v.keys.length;
 let n4 : Int := (↑m3 : Int);
 let z0 := [AVal.int .i64 c, AVal.ptr (Oid.tmp 2) 0, AVal.int .i64 0];
  bif bif c1 then c == 16 else false then k (Out.ret (AVal.int .i64 42) []) else bif decide ((↑v.text.length : Int) > 4096) then k (Out.ret (AVal.int .i64 5) []) else bif bif decide (n2 > 1024) then true else decide (n4 > 1024) then k (Out.ret (AVal.int .i64 3) []) else bif bif bif bif bif bif decide (v.kind < 0) then true else decide (v.kind > 11) then true else bif v.kind != 3 then v.int != 0 else false then true else bif !bif v.kind == 4 then true else decide (v.kind ≥ 7) then !v.text == [] else false then true else bif !c1 then decide (n2 > 0) else false then true else bif v.kind != 6 then decide (n4 > 0) else false then k (Out.ret (AVal.int .i64 9) []) else bif tst (Wk (AVal.list v.kf m3 fun (i : Nat) => [AVal.str (v.keys.getD i [])]) ∧ SubL [AVal.list v.kf m3 fun (i : Nat) => [AVal.str (v.keys.getD i [])]] [canK (AVal.list v.kf m3 fun (i : Nat) => [AVal.str (v.keys.getD i [])])] ∧ ([] : Heap) = []) then bif bif c0 then bif n4 != n2 then true else !R (AVal.list v.kf m3 fun (i : Nat) => [AVal.str (v.keys.getD i [])]) else false then k (Out.ret (AVal.int .i64 9) []) else bif tst (V c [AVal.int .i64 v.kind, AVal.int .i64 v.int, AVal.str v.text, AVal.list v.lf v.ln v.lr, AVal.list v.kf m3 fun (i : Nat) => [AVal.str (v.keys.getD i [])]] ∧ SubTL z0 z0 ∧ [[AVal.int .i64 v.kind, AVal.int .i64 v.int, AVal.str v.text, AVal.list v.lf v.ln v.lr, AVal.list v.kf m3 fun (i : Nat) => [AVal.str (v.keys.getD i [])]]] = [[AVal.int .i64 v.kind, AVal.int .i64 v.int, AVal.str v.text, AVal.list v.lf v.ln v.lr, AVal.list v.kf m3 fun (i : Nat) => [AVal.str (v.keys.getD i [])]]] ∧ ([] : Heap) = []) then bif L [AVal.int .i64 v.kind, AVal.int .i64 v.int, AVal.str v.text, AVal.list v.lf v.ln v.lr, AVal.list v.kf m3 fun (i : Nat) => [AVal.str (v.keys.getD i [])]] c then k (Out.ret (AVal.int .i64 (E [AVal.int .i64 v.kind, AVal.int .i64 v.int, AVal.str v.text, AVal.list v.lf v.ln v.lr, AVal.list v.kf m3 fun (i : Nat) => [AVal.str (v.keys.getD i [])]] c)) []) else k (Out.ret (AVal.int .i64 0) []) else none else none) := by kernel_rfl
noncomputable def layC4 (W : List AVal → Prop) (C : NsT) : Lay := Lay.nil.addF 18 (nsTold W C)
theorem chk4_fun (W : List AVal → Prop) (C : NsT) (v : VaD) (k : Out → Ans) : iFun Tryz.prog ((layC4 W C).hd Tryz.prog) (layC4 W C).fhs 0 9 [.agg (encVa v)] [] k = (
 bif tst ((W (cellsA (AVal.agg [AVal.int .i64 v.kind, AVal.int .i64 v.int, AVal.str v.text, AVal.list v.lf v.ln v.lr, AVal.list v.kf v.keys.length fun (i : Nat) => [AVal.str (v.keys.getD i [])]])) ∧ (0 : Int) ≤ 0 ∧ (0 : Int) ≤ 16) ∧ SubL [AVal.agg [AVal.int .i64 v.kind, AVal.int .i64 v.int, AVal.str v.text, AVal.list v.lf v.ln v.lr, AVal.list v.kf v.keys.length fun (i : Nat) => [AVal.str (v.keys.getD i [])]], AVal.int .i64 0] [AVal.agg (cellsA (AVal.agg [AVal.int .i64 v.kind, AVal.int .i64 v.int, AVal.str v.text, AVal.list v.lf v.ln v.lr, AVal.list v.kf v.keys.length fun (i : Nat) => [AVal.str (v.keys.getD i [])]])), AVal.int .i64 0] ∧ ([] : Heap) = []) then k (Out.ret (AVal.int .i64 (C (cellsA (AVal.agg [AVal.int .i64 v.kind, AVal.int .i64 v.int, AVal.str v.text, AVal.list v.lf v.ln v.lr, AVal.list v.kf v.keys.length fun (i : Nat) => [AVal.str (v.keys.getD i [])]])) 0)) []) else none) := by kernel_rfl
end Go.Mu
namespace Go.Mu
open Go Go.Proofs
theorem bl_tri : ∀ x y : List UInt8, (Op.bytesLess x y || x == y) = !Op.bytesLess y x
 | [], [] => rfl
 | [], b :: y => rfl
 | a :: x, [] => rfl
 | a :: x, b :: y => by
  have ih := bl_tri x y
  have hc : (a :: x == b :: y) = (a == b && x == y) := rfl
  rw [hc]
  simp only [Op.bytesLess]
  by_cases h1 : a < b
  · have h2 : ¬ b < a := fun h => absurd (UInt8.lt_trans h1 h) (UInt8.lt_irrefl a)
    have h3 : ¬ b = a := fun h => by subst h; exact absurd h1 (UInt8.lt_irrefl b)
    simp [h1, h2, h3]
  · by_cases h2 : b < a
    · have h3 : ¬ a = b := fun h => by subst h; exact h1 h2
      simp [h1, h2, h3]
    · have h3 : a = b := UInt8.le_antisymm (UInt8.not_lt.1 h2) (UInt8.not_lt.1 h1)
      subst h3
      simp only [h1, UInt8.lt_irrefl, beq_self_eq_true, Bool.true_and, decide_false, Bool.false_or]
      exact ih
def riHit (ks : List (List UInt8)) (i : Nat) : Bool := bif !nameB (ks.getD i []) then true else bif decide ((i : Int) > 0) then (Op.bytesLess (ks.getD i []) (ks.getD (i - 1) []) || ks.getD i [] == ks.getD (i - 1) []) else false
def riB (ks : List (List UInt8)) : Bool := !(List.range ks.length).any (riHit ks)
def riX (x : AVal) : Bool := riB (decL decS x)
def WkD (x : AVal) : Prop := (decL decS x).length ≤ 1099511627776 ∧ (∀ k ∈ decL decS x, k.length ≤ 4611686018427387903) ∧ x = canK x
theorem dec_ss (f : Bool) (ks : List (List UInt8)) : decL decS (encSs f ks) = ks := decL_encL (fun a => rfl) ks
theorem can_ss (f : Bool) (ks : List (List UInt8)) : canK (encSs f ks) = encSs f ks := by unfold canK; rw [dec_ss]; rfl
noncomputable abbrev riTurn := lturn Tryz.prog layRi0 (riFH WkD riX) 33 2 [0,3] [] [2] []
theorem ri_rd (f : Bool) (ks : List (List UInt8)) (hl : ks.length ≤ 1099511627776) (hk : ∀ k ∈ ks, k.length ≤ 4611686018427387903) (i : Nat) (hi : i < ks.length) (D : List (FuncId × List AVal)) (k : Kont) :
 riTurn (stL 32 [0,3] [encSs f ks, .int .i64 (i : Nat)] [] [] [] D) k = cond (riHit ks i) (k .ret (stL 32 [2] [.bool false] [] [] [] D)) (k .normal (stL 32 [0,3] [encSs f ks, .int .i64 ((i + 1 : Nat) : Int)] [] [] [] D)) := by
 refine (ri_step WkD riX f ks i D k).trans ?_
 have e1 : IntKind.i64.wrap ((i : Int) + 1) = ((i + 1 : Nat) : Int) := wrap_add1 (by omega)
 have e2 : IntKind.i64.wrap ((i : Int) - 1) = (i : Int) - 1 := wrap_of (by omega) (by omega)
 have e3 : ((i : Int) - 1).toNat = i - 1 := by omega
 have hm : (ks.getD i []).length ≤ 4611686018427387903 := hk _ (by rw [List.getD_eq_getElem?_getD, List.getElem?_eq_getElem hi]; exact List.getElem_mem hi)
 have hg : (decide (0 ≤ (i : Int) - 1) && decide ((i : Int) - 1 < (ks.length : Nat)) || !(!!nameB (ks.getD i []) && decide ((i : Int) > 0))) = true := by
  by_cases h0 : (i : Int) > 0
  · rw [dT (show 0 ≤ (i : Int) - 1 by omega), dT (show (i : Int) - 1 < (ks.length : Nat) by omega)]; rfl
  · rw [dF h0]; simp
 simp only [Int.toNat_natCast, e1, e2, e3, hg, dT hm, dT (show (i : Int) < (ks.length : Nat) by omega), dT (show (0 : Int) ≤ (i : Int) by omega), Bool.and_self, Bool.true_or, cond_true]
 unfold riHit
 cases (bif !nameB (ks.getD i []) then true else bif decide ((i : Int) > 0) then (Op.bytesLess (ks.getD i []) (ks.getD (i - 1) []) || ks.getD i [] == ks.getD (i - 1) []) else false) <;> rfl
theorem riSp_ok : SpOK riTurn 32 [0,3] [] [2] [] (riSp WkD riX) := mkL_ok fun x h => by
 obtain ⟨h1, h2, h3⟩ := h
 have eR : riX x = riB (decL decS x) := rfl
 show ∃ e vs bs H', (∀ k : AExit → List AVal → List (List AVal) → Heap → Ans, cond (riX x) _ _ = k e vs bs H') ∧ _
 rw [eR]
 unfold canK
 generalize decL decS x = ks at *
 generalize fullOf x = f
 have hN : ∀ D k, riTurn (stL 32 [0,3] [encSs f ks, .int .i64 (ks.length : Nat)] [] [] [] D) k = k (.exit 0) (stL 32 [2] [.undef] [] [] [] D) := fun D k => by
  refine (ri_step WkD riX f ks ks.length D k).trans ?_
  simp only [dF (show ¬ (ks.length : Int) < (ks.length : Nat) by omega), cond_false]
 unfold riB
 cases ha : (List.range ks.length).find? (riHit ks) with
 | none =>
  rw [find_any.1 ha]
  exact ⟨_, _, _, _, fun k => rfl, none_runs (fun i => [encSs f ks, .int .i64 (i : Nat)]) [] [] (riHit ks) ks.length (by simp) (fun i hi D k => ri_rd f ks h1 h2 i hi D k) hN ha⟩
 | some j =>
  have : (List.range ks.length).any (riHit ks) = true := by
   cases hb : (List.range ks.length).any (riHit ks) with
   | true => rfl
   | false => rw [find_any.2 hb] at ha; cases ha
  rw [this]
  exact ⟨_, _, _, _, fun k => rfl, find_runs (fun i => [encSs f ks, .int .i64 (i : Nat)]) [] [] (riHit ks) ks.length (v1 := fun _ => [.bool false]) (b1 := fun _ => []) (H1 := fun _ => []) (by simp) (fun i hi D k => ri_rd f ks h1 h2 i hi D k) ha⟩
theorem layRi0_ok : layRi0.OK Tryz.prog := Lay.nil_ok.addF rNameTold_ok
theorem layRi_ok : (layRi WkD riX).OK Tryz.prog := layRi0_ok.loop1 (id := 2) (by kernel_rfl) (by kernel_rfl) (by kernel_rfl) riSp_ok
theorem riTold_ok : ∀ xs H k out, riTold WkD riX xs H k = some out → ∃ o, CallOK Tryz.prog 33 xs H o ∧ k o = some out := mkF_ok fun x h => ⟨_, fun k => rfl, by
 have hx := h.2.2
 have key := fun k => ri_fun WkD riX (fullOf x) (decL decS x) k
 have e : (AVal.list (fullOf x) (decL decS x).length fun (i : Nat) => [AVal.str ((decL decS x).getD i [])]) = x := hx.symm
 rw [e] at key
 refine layRi_ok.callF (G := []) rfl (fun k => (key k).trans ?_)
 refine (congrArg (fun c => cond c _ none) (tst_true ⟨h, by rw [← hx]; exact .refl _, by trivial⟩)).trans ((cond_true _ _).trans ?_)
 cases riX x <;> rfl⟩
def ckMany (v : VaD) : Bool := bif v.kind == 5 then true else v.kind == 6
def ckBad (v : VaD) : Bool := bif
 bif
  bif
   bif bif decide (v.kind < 0) then true else decide (v.kind > 11) then true
   else bif v.kind != 3 then v.int != 0 else false then
   true
  else bif !bif v.kind == 4 then true else decide (v.kind ≥ 7) then !v.text == [] else false then
  true
 else bif !ckMany v then decide ((v.ln : Int) > 0) else false then
 true
 else bif v.kind != 6 then decide ((v.keys.length : Int) > 0) else false
def ckKey (v : VaD) : Bool := bif v.kind == 6 then (bif (v.keys.length : Int) != (v.ln : Int) then true else !riB v.keys) else false
def ckB (C : VaD → Int → Int) (v : VaD) (c : Int) : Int :=
 bif decide ((v.text.length : Int) > 4096) then 5 else bif (bif decide ((v.ln : Int) > 1024) then true else decide ((v.keys.length : Int) > 1024)) then 3 else bif ckBad v then 9 else bif ckKey v then 9 else
  bif (vals v.list).any (fun x => C x (c + 1) != 0) then C ((vals v.list).getD ((vals v.list).findIdx (fun x => C x (c + 1) != 0)) va0) (c + 1) else 0
def chkV : Nat → VaD → Int → Int
 | 0, _, _ => 0
 | d + 1, v, c => bif (bif ckMany v then c == 16 else false) then 42 else ckB (chkV d) v c
theorem chkV_s (d : Nat) (v : VaD) (c : Int) : chkV (d + 1) v c = bif (bif ckMany v then c == 16 else false) then 42 else ckB (chkV d) v c := rfl
def chR (d : Nat) (x : List AVal) (c : Int) : Int := chkV d (decVa x) c
theorem chR_enc (d : Nat) (v : VaD) (c : Int) : chR d (encVa v) c = chkV d v c := by unfold chR; rw [decVa_enc]
def cLb (d : Nat) (x : List AVal) (c : Int) : Bool := (vals (decVa x).list).any (fun v => chkV d v (c + 1) != 0)
def cLv (d : Nat) (x : List AVal) (c : Int) : Int := chkV d ((vals (decVa x).list).getD ((vals (decVa x).list).findIdx (fun v => chkV d v (c + 1) != 0)) va0) (c + 1)
def VcD (d : Nat) (c : Int) (x : List AVal) : Prop := (∃ v : VaD, x = encVa (canA v) ∧ WlD d v.list ∧ (c ≤ 15 ∨ vals v.list = [])) ∧ 0 ≤ c ∧ c ≤ 16
noncomputable abbrev ccTurn (d : Nat) := lturn Tryz.prog (layCc0 (WvD d) (chR d) WkD riX) (ccFH (VcD d) (cLb d) (cLv d)) 18 14 [1,2,7] [2] [4] []
theorem cc_rd (d : Nat) (v : VaD) (c : Int) (h : WlD d v.list) (h0 : 0 ≤ c) (h15 : c ≤ 15) (i : Nat) (hi : i < (vals v.list).length) (D : List (FuncId × List AVal)) (k : Kont) :
 ccTurn d (stL 128 [1,2,7] [.int .i64 c, .ptr (.tmp 2) 0, .int .i64 (i : Nat)] [2] [encVa (canA v)] [] D) k = cond (chkV d ((vals v.list).getD i va0) (c + 1) != 0) (k .ret (stL 128 [4] [.int .i64 (chkV d ((vals v.list).getD i va0) (c + 1))] [] [] [] D)) (k .normal (stL 128 [1,2,7] [.int .i64 c, .ptr (.tmp 2) 0, .int .i64 ((i + 1 : Nat) : Int)] [2] [encVa (canA v)] [] D)) := by
 have hl := WlD_len h
 have hm : (vals v.list).getD i va0 ∈ vals v.list := by rw [List.getD_eq_getElem?_getD, List.getElem?_eq_getElem hi]; exact List.getElem_mem hi
 obtain ⟨w1, w2⟩ := WlD_mem h hm
 refine (cc_step (WvD d) (chR d) WkD riX (VcD d) (cLb d) (cLv d) v.kind v.int v.text v.lf (vals v.list).length (fun i => (vals v.list).getD i va0) v.kf v.keys c i D k).trans ?_
 have e1 : IntKind.i64.wrap ((i : Int) + 1) = ((i + 1 : Nat) : Int) := wrap_add1 (by omega)
 have e2 : IntKind.i64.wrap (c + 1) = c + 1 := wrap_of (by omega) (by omega)
 simp only [e1, e2, dT (show (i : Int) < ((vals v.list).length : Nat) by omega), dT (show (0 : Int) ≤ (i : Int) by omega), Bool.and_self, cond_true, Int.toNat_natCast]
 refine (congrArg (fun b => cond b _ none) (tst_true ⟨⟨WvD_enc w1 w2, by omega, by omega⟩, .refl _, by trivial⟩)).trans ((cond_true _ _).trans ?_)
 show cond (chR d (encVa ((vals v.list).getD i va0)) (c + 1) != 0) (k .ret (stL 128 [4] [.int .i64 (chR d (encVa ((vals v.list).getD i va0)) (c + 1))] [] [] [] D)) _ = _
 rw [chR_enc]
 rfl
theorem ccSp_ok (d : Nat) : SpOK (ccTurn d) 128 [1,2,7] [2] [4] [] (ccSp (VcD d) (cLb d) (cLv d)) := mkL_ok fun a h => by
 obtain ⟨c, x⟩ := a
 obtain ⟨⟨v, hx, hw, h15⟩, h0, h16⟩ := h
 simp only at hx hw h15 h0 h16
 subst hx
 have hl := WlD_len hw
 have eL : cLb d (encVa (canA v)) c = (vals v.list).any (fun v => chkV d v (c + 1) != 0) := by unfold cLb; rw [decVa_enc, canA_vals]
 have eV : cLv d (encVa (canA v)) c = chkV d ((vals v.list).getD ((vals v.list).findIdx (fun v => chkV d v (c + 1) != 0)) va0) (c + 1) := by unfold cLv; rw [decVa_enc, canA_vals]
 show ∃ e vs bs H', (∀ k : AExit → List AVal → List (List AVal) → Heap → Ans, cond (cLb d (encVa (canA v)) c) (k .ret [.int .i64 (cLv d (encVa (canA v)) c)] [] []) _ = k e vs bs H') ∧ _
 rw [eL, eV]
 have hf := find_getD (fun v => chkV d v (c + 1) != 0) (vals v.list) va0
 have hN : ∀ D k, ccTurn d (stL 128 [1,2,7] [.int .i64 c, .ptr (.tmp 2) 0, .int .i64 ((vals v.list).length : Nat)] [2] [encVa (canA v)] [] D) k = k (.exit 0) (stL 128 [4] [.undef] [] [] [] D) := fun D k => by
  refine (cc_step (WvD d) (chR d) WkD riX (VcD d) (cLb d) (cLv d) v.kind v.int v.text v.lf (vals v.list).length (fun i => (vals v.list).getD i va0) v.kf v.keys c (vals v.list).length D k).trans ?_
  simp only [dF (show ¬ ((vals v.list).length : Int) < ((vals v.list).length : Nat) by omega), cond_false]
 have hrd : ∀ i, i < (vals v.list).length → ∀ D k, ccTurn d (stL 128 [1,2,7] [.int .i64 c, .ptr (.tmp 2) 0, .int .i64 (i : Nat)] [2] [encVa (canA v)] [] D) k = _ := fun i hi D k => cc_rd d v c hw h0 (by
  rcases h15 with h | h
  · exact h
  · rw [h] at hi; exact absurd hi (Nat.not_lt_zero _)) i hi D k
 cases ha : (vals v.list).any (fun v => chkV d v (c + 1) != 0) with
 | false =>
  rw [ha] at hf
  exact ⟨_, _, _, _, fun k => rfl, none_runs (fun i => [.int .i64 c, .ptr (.tmp 2) 0, .int .i64 (i : Nat)]) [encVa (canA v)] [] _ (vals v.list).length (by simp) hrd hN hf⟩
 | true =>
  rw [ha] at hf
  exact ⟨_, _, _, _, fun k => rfl, find_runs (fun i => [.int .i64 c, .ptr (.tmp 2) 0, .int .i64 (i : Nat)]) [encVa (canA v)] [] _ (vals v.list).length (v1 := fun i => [.int .i64 (chkV d ((vals v.list).getD i va0) (c + 1))]) (b1 := fun _ => []) (H1 := fun _ => []) (by simp) hrd hf⟩
theorem keys_Wk {d : Nat} {v : VaD} (hs : szV (d + 1) v ≤ 16777216) : WkD (encSs v.kf v.keys) := by
 have h1 := wf_keys hs
 refine ⟨by rw [dec_ss]; omega, fun k hk => ?_, (can_ss _ _).symm⟩
 rw [dec_ss] at hk
 unfold szV at hs
 have := sum_mem (fun k : List UInt8 => 16 + 16 * k.length) v.keys k hk
 omega
theorem cc_call {d : Nat} (v : VaD) (c : Int) (hw : wfVal (d + 1) v) (hs : szV (d + 1) v ≤ 16777216) (h0 : 0 ≤ c) (h16 : c ≤ 16) (k : Out → Ans) : iFun Tryz.prog ((layCc (WvD d) (chR d) WkD riX (VcD d) (cLb d) (cLv d)).hd Tryz.prog) (layCc (WvD d) (chR d) WkD riX (VcD d) (cLb d) (cLv d)).fhs 0 18 [.agg (encVa (canA v)), .int .i64 c] [] k = k (.ret (.int .i64 (chkV (d + 1) v c)) []) := by
 have hl := wf_list hw hs
 have hk := keys_Wk hs
 have hln : (vals v.list).length = v.ln := lnV_eq (d := d) hl
 have eR : riX (encSs v.kf v.keys) = riB v.keys := by unfold riX; rw [dec_ss]
 have eL : cLb d (encVa (canA v)) c = (vals v.list).any (fun v => chkV d v (c + 1) != 0) := by unfold cLb; rw [decVa_enc, canA_vals]
 have eV : cLv d (encVa (canA v)) c = chkV d ((vals v.list).getD ((vals v.list).findIdx (fun v => chkV d v (c + 1) != 0)) va0) (c + 1) := by unfold cLv; rw [decVa_enc, canA_vals]
 refine (cc_fun (WvD d) (chR d) WkD riX (VcD d) (cLb d) (cLv d) (canA v) c k).trans ?_
 have eln : ((canA v).ln : Int) = (v.ln : Int) := by show (((vals v.list).length : Nat) : Int) = _; rw [hln]
 have main : ∀ c5 c6 : Bool, c5 = true → (ckMany v = true ∧ c ≠ 16 ∨ v.ln = 0 → c6 = true) →
  (bif bif ckMany v then c == 16 else false then k (Out.ret (AVal.int .i64 42) [])
  else bif decide ((v.text.length : Int) > 4096) then k (Out.ret (AVal.int .i64 5) [])
  else bif bif decide ((v.ln : Int) > 1024) then true else decide ((v.keys.length : Int) > 1024) then k (Out.ret (AVal.int .i64 3) [])
  else bif ckBad v then k (Out.ret (AVal.int .i64 9) [])
  else bif c5 then bif ckKey v then k (Out.ret (AVal.int .i64 9) []) else bif c6 then bif cLb d (encVa (canA v)) c then k (Out.ret (AVal.int .i64 (cLv d (encVa (canA v)) c)) []) else k (Out.ret (AVal.int .i64 0) []) else none else none) = k (.ret (.int .i64 (chkV (d + 1) v c)) []) := by
  intro c5 c6 h5 h6
  rw [h5, eL, eV, chkV_s]
  unfold ckB
  cases h1 : (bif ckMany v then c == 16 else false) with
  | true => rfl
  | false =>
   simp only [cond_false, cond_true]
   cases decide ((v.text.length : Int) > 4096) with
   | true => rfl
   | false =>
    simp only [cond_false]
    cases (bif decide ((v.ln : Int) > 1024) then true else decide ((v.keys.length : Int) > 1024)) with
    | true => rfl
    | false =>
     simp only [cond_false]
     cases h2 : ckBad v with
     | true => rfl
     | false =>
      simp only [cond_false]
      cases ckKey v with
      | true => rfl
      | false =>
       have : c6 = true := h6 (by
        cases hm : ckMany v with
        | true => rw [hm, cond_true] at h1; exact .inl ⟨rfl, by simpa using h1⟩
        | false =>
         refine .inr ?_
         unfold ckBad at h2
         rw [hm] at h2
         revert h2
         cases (bif bif bif decide (v.kind < 0) then true else decide (v.kind > 11) then true else bif v.kind != 3 then v.int != 0 else false then true else bif !bif v.kind == 4 then true else decide (v.kind ≥ 7) then !v.text == [] else false) <;> cases hd : decide ((v.ln : Int) > 0) <;> cases v.kind != 6 <;> cases decide ((v.keys.length : Int) > 0) <;> simp only [cond_true, cond_false, Bool.not_false] <;> intro h
         all_goals first
          | (have := of_decide_eq_false hd; omega)
          | cases h)
       rw [this]
       simp only [cond_false, cond_true]
       cases (vals v.list).any (fun x => chkV d x (c + 1) != 0) <;> rfl
 have eM : (bif v.kind == 5 then true else v.kind == 6) = ckMany v := rfl
 have t5 : tst (WkD (encSs v.kf v.keys) ∧ SubL [encSs v.kf v.keys] [canK (encSs v.kf v.keys)] ∧ ([] : Heap) = []) = true := tst_true ⟨hk, by rw [can_ss]; exact .refl _, rfl⟩
 have := main _ (tst (VcD d c (encVa (canA v)) ∧ SubTL [AVal.int .i64 c, AVal.ptr (Oid.tmp 2) 0, AVal.int .i64 0] [AVal.int .i64 c, AVal.ptr (Oid.tmp 2) 0, AVal.int .i64 0] ∧ [encVa (canA v)] = [encVa (canA v)] ∧ ([] : Heap) = [])) t5 (fun h => tst_true ⟨⟨⟨v, rfl, hl, by
  rcases h with h | h
  · exact .inl (by omega)
  · exact .inr (List.length_eq_zero_iff.1 (by rw [hln]; exact h))⟩, h0, h16⟩, .refl _, rfl, rfl⟩)
 refine Eq.trans ?_ this
 unfold ckKey ckBad
 rw [← eR]
 simp only [eln]
 rfl
theorem layCc_ok {d : Nat} (h : ∀ xs H k out, nsTold (WvD d) (chR d) xs H k = some out → ∃ o, CallOK Tryz.prog 18 xs H o ∧ k o = some out) : (layCc (WvD d) (chR d) WkD riX (VcD d) (cLb d) (cLv d)).OK Tryz.prog :=
 ((Lay.nil_ok.addF h).addF riTold_ok).loop1 (id := 14) (by kernel_rfl) (by kernel_rfl) (by kernel_rfl) (ccSp_ok d)
theorem ccTold_ok : ∀ (d : Nat) xs H k out, nsTold (WvD d) (chR d) xs H k = some out → ∃ o, CallOK Tryz.prog 18 xs H o ∧ k o = some out
 | 0 => mkF_ok fun x h => absurd h.1.2.1 (by unfold wfVal; exact id)
 | d + 1 => mkF_ok fun x h => ⟨_, fun k => rfl, by
  obtain ⟨x, c⟩ := x
  obtain ⟨⟨h1, h2, h3⟩, h4, h5⟩ := h
  have h1 : x = encVa (decVa x) := h1
  simp only at h2 h3 h4 h5
  have key := (layCc_ok (ccTold_ok d)).callF (G := []) rfl (fun k => cc_call (decVa x) c h2 h3 h4 h5 k)
  have key2 := key.subArgs (.cons (canA_sub (wf_list h2 h3)) (.refl _))
  rw [← h1] at key2
  exact key2⟩
def ch0R (d : Nat) (x : List AVal) : Int := chkV d (decVa x) 0
theorem ch0R_enc (d : Nat) (v : VaD) : ch0R d (encVa v) = chkV d v 0 := by unfold ch0R; rw [decVa_enc]
theorem ck4Told_ok (d : Nat) : ∀ xs H k out, ckTold (WvD d) (ch0R d) xs H k = some out → ∃ o, CallOK Tryz.prog 9 xs H o ∧ k o = some out := vrTold_ok (ok := WvD d) (post := fun x k => k (.ret (.int .i64 (ch0R d x)) [])) fun x h => ⟨_, fun k => rfl, by
 obtain ⟨h1, h2, h3⟩ := h
 have h1 : x = encVa (decVa x) := h1
 generalize decVa x = v at h1 h2 h3
 subst h1
 rw [ch0R_enc]
 refine (Lay.nil_ok.addF (ccTold_ok d)).callF (G := []) rfl (fun k => (chk4_fun (WvD d) (chR d) v k).trans ?_)
 refine (congrArg (fun b => cond b _ none) (tst_true ⟨⟨WvD_enc h2 h3, by decide, by decide⟩, .refl _, by trivial⟩)).trans ((cond_true _ _).trans ?_)
 show k (.ret (.int .i64 (chR d (encVa v) 0)) []) = _
 rw [chR_enc]⟩
theorem ri_ky {v : VaD} (h : riB v.keys = true) : kyR v = true := by
 unfold riB at h
 unfold kyR
 rw [Bool.not_eq_true', List.any_eq_false] at h ⊢
 intro i hi
 have := h i hi
 unfold riHit at this
 unfold kyHit
 rw [bl_tri] at this
 exact this
theorem nat_eq0 (n : Nat) : ((n : Int) == 0) = !decide ((n : Int) > 0) := by
 rw [Bool.eq_iff_iff, Bool.not_eq_true', beq_iff_eq, decide_eq_false_iff_not]; omega
theorem nest_of_chk : ∀ (d : Nat) (v : VaD) (c : Int), 0 ≤ c → c ≤ 16 → wfVal d v → chkV d v c = 0 → nestV d v (16 - c) = 0
 | 0, v, c, _, _, h, _ => h.elim
 | d + 1, v, c, h0, h16, hw, h => by
  rw [chkV_s] at h
  cases h1 : (bif ckMany v then c == 16 else false) with
  | true => rw [h1] at h; exact absurd h (show ¬ (42 : Int) = 0 by decide)
  | false =>
   rw [h1, cond_false] at h
   unfold ckB at h
   cases h2 : decide ((v.text.length : Int) > 4096) with
   | true => rw [h2] at h; exact absurd h (show ¬ (5 : Int) = 0 by decide)
   | false =>
    rw [h2, cond_false] at h
    cases h3 : (bif decide ((v.ln : Int) > 1024) then true else decide ((v.keys.length : Int) > 1024)) with
    | true => rw [h3] at h; exact absurd h (show ¬ (3 : Int) = 0 by decide)
    | false =>
     rw [h3, cond_false] at h
     cases h4 : ckBad v with
     | true => rw [h4] at h; exact absurd h (show ¬ (9 : Int) = 0 by decide)
     | false =>
      rw [h4, cond_false] at h
      cases h5 : ckKey v with
      | true => rw [h5] at h; exact absurd h (show ¬ (9 : Int) = 0 by decide)
      | false =>
       rw [h5, cond_false] at h
       have hu : usedB v = true := by
        unfold ckBad ckMany at h4
        unfold usedB
        revert h4
        have e0 : decide (v.kind ≥ 0) = !decide (v.kind < 0) := by by_cases x : v.kind < 0 <;> simp [x] <;> omega
        have e1 : decide (v.kind ≤ 11) = !decide (v.kind > 11) := by by_cases x : v.kind > 11 <;> simp [x] <;> omega
        have e2 : ((v.ln : Int) == 0) = !decide ((v.ln : Int) > 0) := nat_eq0 v.ln
        have e3 : ((v.keys.length : Int) == 0) = !decide ((v.keys.length : Int) > 0) := nat_eq0 v.keys.length
        have e4 : (v.kind != 3) = !(v.kind == 3) := rfl
        have e5 : (v.kind != 6) = !(v.kind == 6) := rfl
        have e6 : (v.int != 0) = !(v.int == 0) := rfl
        rw [e0, e1, e2, e3, e4, e5, e6]
        generalize decide (v.kind < 0) = b0
        generalize decide (v.kind > 11) = b1
        generalize (v.kind == 3) = b2
        generalize (v.int == 0) = b3
        generalize (v.kind == 4) = b4
        generalize decide (v.kind ≥ 7) = b5
        generalize (v.text == []) = b6
        generalize (v.kind == 5) = b7
        generalize (v.kind == 6) = b8
        generalize decide ((v.ln : Int) > 0) = b9
        generalize decide ((v.keys.length : Int) > 0) = b10
        cases b0 <;> cases b1 <;> cases b2 <;> cases b3 <;> cases b4 <;> cases b5 <;> cases b6 <;> cases b7 <;> cases b8 <;> cases b9 <;> cases b10 <;> decide
       have hy : keysB v = true := by
        unfold ckKey at h5
        unfold keysB
        have e5 : (v.kind != 6) = !(v.kind == 6) := rfl
        rw [e5]
        cases h6 : (v.kind == 6) with
        | false => rfl
        | true =>
         rw [h6, cond_true] at h5
         have e7 : ((v.keys.length : Int) != (v.ln : Int)) = !((v.keys.length : Int) == (v.ln : Int)) := rfl
         rw [e7] at h5
         cases h8 : ((v.keys.length : Int) == (v.ln : Int)) with
         | false => rw [h8] at h5; cases h5
         | true =>
          rw [h8] at h5
          have : riB v.keys = true := by simpa using h5
          rw [ri_ky this]
          rfl
       have hch : ∀ c', (ckMany v = true → c' = 16 - (c + 1)) → nestB (nestV d) v c' = 0 := by
        intro c' hc'
        unfold nestB
        rw [h2, h3, hu, hy]
        have hno : (vals v.list).any (fun x => nestV d x c' != 0) = false := by
         rw [List.any_eq_false]
         intro x hx
         cases hm : ckMany v with
         | true =>
          rw [hm, cond_true] at h1
          have hc : c ≠ 16 := by simpa using h1
          have hl : (vals v.list).any (fun x => chkV d x (c + 1) != 0) = false := by
           cases ha : (vals v.list).any (fun x => chkV d x (c + 1) != 0) with
           | false => rfl
           | true =>
            rw [ha, cond_true] at h
            have hf := List.findIdx_lt_length_of_exists (p := fun x => chkV d x (c + 1) != 0) (by simpa using ha)
            have hg := List.findIdx_getElem (p := fun x => chkV d x (c + 1) != 0) (w := hf)
            rw [List.getD_eq_getElem?_getD, List.getElem?_eq_getElem hf] at h
            simp only [Option.getD_some] at h
            rw [h] at hg
            exact absurd hg (by decide)
          have := List.any_eq_false.1 hl x hx
          have hx0 : chkV d x (c + 1) = 0 := by simpa using this
          have := nest_of_chk d x (c + 1) (by omega) (by omega) (hw.2.2.2 x hx) hx0
          rw [hc' hm, this]
          decide
         | false =>
          exfalso
          have hln : v.ln = 0 := by
           unfold ckBad at h4
           rw [hm] at h4
           revert h4
           cases (bif bif bif decide (v.kind < 0) then true else decide (v.kind > 11) then true else bif v.kind != 3 then v.int != 0 else false then true else bif !bif v.kind == 4 then true else decide (v.kind ≥ 7) then !v.text == [] else false) <;> cases hd : decide ((v.ln : Int) > 0) <;> cases v.kind != 6 <;> cases decide ((v.keys.length : Int) > 0) <;> simp only [cond_true, cond_false, Bool.not_false] <;> intro h
           all_goals first
            | (have := of_decide_eq_false hd; omega)
            | cases h
          have hl2 : (vals v.list).length = v.ln := lenL_decL hw.2.2.1
          rw [hln] at hl2
          rw [List.length_eq_zero_iff.1 hl2] at hx
          cases hx
        rw [hno]
        rfl
       unfold nestV
       have eM : (bif v.kind == 5 then true else v.kind == 6) = ckMany v := rfl
       rw [eM]
       cases hm : ckMany v with
       | true =>
        rw [hm, cond_true] at h1
        have hc : c ≠ 16 := by simpa using h1
        rw [dF (show ¬ 16 - c - 1 < 0 by omega)]
        simp only [cond_true, cond_false]
        exact hch _ (fun _ => by omega)
       | false =>
        simp only [cond_false]
        exact hch _ (fun h => by rw [hm] at h; cases h)
end Go.Mu
namespace Go.Mu
open Go
abbrev Bs := List UInt8
structure SS where
 k : Int
 el : Bs
 ar : Bs
 dl : UInt8
 pe : Bs
 rf : Bs
 pt : Int
 wd : Bs
deriving DecidableEq
def ss0 : SS := ⟨0, [], [], 0, [], [], 0, []⟩
structure ScR where
 e : Int
 s : SS
def sOk (s : SS) : ScR := ⟨0, s⟩
def sBad (e : Int) (s : SS) : ScR := ⟨e, s⟩
def ScR.then (r : ScR) (f : SS → ScR) : ScR := bif r.e == 0 then f r.s else r
def blankB (c : UInt8) : Bool := c == 32 || (decide (9 ≤ c.toNat) && decide (c.toNat ≤ 13) && c != 11)
def letterB (c : UInt8) : Bool := decide (97 ≤ (c ||| 32).toNat) && decide ((c ||| 32).toNat ≤ 122)
def smallB (c : UInt8) : UInt8 := bif decide (65 ≤ c.toNat) && decide (c.toNat ≤ 90) then c + 32 else c
def digitB (c : UInt8) : Bool := decide (48 ≤ c.toNat) && decide (c.toNat ≤ 57)
def allowedB (s : Bs) : Bool := s == [104,116,116,112] || s == [104,116,116,112,115] || s == [109,97,105,108,116,111]
def urlFirst (w : Bs) (c : UInt8) : Int × Bs :=
 bif c == 47 then (2, []) else bif c == 63 || c == 35 then (3, []) else bif c == 58 && allowedB w then (2, []) else bif c == 58 then (5, [])
 else bif decide (w.length < 16) then (1, w ++ [smallB c]) else (1, w)
def urlStep (p : Int) (w : Bs) (c : UInt8) : Int × Bs :=
 bif p == 0 then urlFirst [] c else bif p == 1 then urlFirst w c
 else bif (p == 2 || p == 4) && (c == 63 || c == 35) then (3, []) else bif p == 4 && c == 47 then (2, []) else bif p == 4 && c == 58 then (5, [])
 else bif p == 2 || p == 3 || p == 4 then (p, []) else (5, [])
def jsWordy (c : UInt8) : Bool := letterB c || digitB c || c == 95 || c == 36 || decide (127 < c.toNat)
def jsWords : List Bs := [[114,101,116,117,114,110],[116,121,112,101,111,102],[99,97,115,101],[105,110],[111,102],[100,101,108,101,116,101],[118,111,105,100],[116,104,114,111,119],[110,101,119],[101,108,115,101],[100,111],[105,110,115,116,97,110,99,101,111,102]]
def jsEnded (p : Int) (w : Bs) : Int := bif w != [] && jsWords.contains w then 0 else p
def jsCode (p : Int) (w : Bs) (c : UInt8) : Int × Bs :=
 bif jsWordy c then (1, bif decide (w.length < 16) then w ++ [c] else w)
 else
  let q := jsEnded p w
  bif blankB c then (q, []) else bif c == 34 then (2, []) else bif c == 39 then (3, []) else bif c == 96 then (15, [])
  else bif c == 47 && q == 0 then (13, []) else bif c == 47 then (14, []) else bif c == 41 || c == 93 || c == 125 then (1, []) else (0, [])
def nlB (c : UInt8) : Bool := c == 10 || c == 13
def jsQuoted (p : Int) (c : UInt8) : Int :=
 bif c == (bif p == 3 then 39 else 34) then 1 else bif c == 92 then (bif p == 3 then 5 else 4) else bif nlB c then 15 else p
def jsMatched (p : Int) (c : UInt8) : Int :=
 bif nlB c then 15 else bif c == 92 then IntKind.i64.wrap (p + 1) else bif p == 9 && c == 47 then 1 else bif p == 9 && c == 91 then 11 else bif p == 11 && c == 93 then 9 else p
def jsRemark (p : Int) (c : UInt8) : Int := bif c == 42 then 8 else bif p == 8 && c == 47 then 0 else 7
def jsSlashed (p : Int) (c : UInt8) : Int × Bs :=
 bif c == 47 then (6, []) else bif c == 42 then (7, []) else bif p == 13 then (jsMatched 9 c, []) else jsCode 0 [] c
def jsStep (p : Int) (w : Bs) (c : UInt8) : Int × Bs :=
 bif p == 0 || p == 1 then jsCode p w c else bif p == 2 || p == 3 then (jsQuoted p c, []) else bif p == 4 || p == 5 then (p - 2, [])
 else bif p == 6 then (bif nlB c then 0 else 6, []) else bif p == 7 || p == 8 then (jsRemark p c, []) else bif p == 9 || p == 11 then (jsMatched p c, [])
 else bif p == 10 || p == 12 then (p - 1, []) else bif p == 13 || p == 14 then jsSlashed p c else (15, [])
def csWordy (c : UInt8) : Bool := letterB c || digitB c || c == 45 || c == 95
def csCode (w : Bs) (c : UInt8) : Int × Bs :=
 bif csWordy c && w == [63] then (0, [63]) else bif csWordy c && decide (w.length < 16) then (0, w ++ [smallB c]) else bif csWordy c then (0, w)
 else bif c == 40 && w == [117,114,108] then (8, []) else bif (c == 40 && w == [63]) || c == 92 then (9, []) else bif c == 34 then (1, []) else bif c == 39 then (2, [])
 else bif c == 47 then (5, []) else (0, [])
def csQuoted (p : Int) (c : UInt8) : Int :=
 bif (c == 34 && p == 1) || (c == 39 && p == 2) then 0 else bif c == 92 then IntKind.i64.wrap (p + 2) else bif nlB c then 9 else p
def csRemark (p : Int) (c : UInt8) : Int × Bs :=
 bif p == 5 && c == 42 then (6, []) else bif p == 5 then csCode [] c else bif c == 42 then (7, []) else bif p == 7 && c == 47 then (0, []) else (6, [])
def csStep (p : Int) (w : Bs) (c : UInt8) : Int × Bs :=
 bif p == 0 then csCode w c else bif p == 1 || p == 2 then (csQuoted p c, []) else bif p == 3 || p == 4 then (p - 2, [])
 else bif p == 5 || p == 6 || p == 7 then csRemark p c else bif p == 8 then (bif c == 41 then 0 else 8, []) else (9, [])
def feedP (f : Int → Bs → UInt8 → Int × Bs) : Int → Bs → Bs → Int × Bs
 | p, w, [] => (p, w)
 | p, w, c :: s => feedP f (f p w c).1 (f p w c).2 s
def hpB (x a : Bs) : Bool := bif decide ((a.length : Int) ≥ (x.length : Int)) then a.take x.length == x else false
def elmK (s : Bs) : Int :=
 bif s == [116,105,116,108,101] || s == [116,101,120,116,97,114,101,97] then 1 else bif s == [115,116,121,108,101] then 2 else bif s == [115,99,114,105,112,116] then 3
 else bif s == [112,108,97,105,110,116,101,120,116] || s == [120,109,112] || s == [105,102,114,97,109,101] || s == [110,111,101,109,98,101,100] || s == [110,111,102,114,97,109,101,115] || s == [110,111,115,99,114,105,112,116] then 4 else 0
def atrK (el a : Bs) : Int :=
 bif [[104,114,101,102],[115,114,99],[97,99,116,105,111,110],[102,111,114,109,97,99,116,105,111,110],[99,105,116,101],[112,111,115,116,101,114],[98,97,99,107,103,114,111,117,110,100],[108,111,110,103,100,101,115,99],[109,97,110,105,102,101,115,116],[105,99,111,110]].contains a then 1
 else bif a == [100,97,116,97] then (bif el == [111,98,106,101,99,116] then 1 else 0)
 else bif a == [115,116,121,108,101] then 3
 else bif [[115,114,99,100,111,99],[115,114,99,115,101,116],[104,116,116,112,45,101,113,117,105,118],[112,105,110,103],[]].contains a then 4
 else bif hpB [111,110] a then 2 else bif hpB [120,109,108,110,115] a then 4 else 0
def inB (s : SS) (a b : Int) : Bool := decide (s.k ≥ a) && decide (s.k ≤ b)
def kindM (s : SS) : Int := bif !inB s 8 10 || hpB [47] s.el then 0 else atrK s.el s.ar
def subB (s : SS) : Bool := inB s 18 19 || (inB s 9 10 && decide (kindM s ≥ 1) && decide (kindM s ≤ 3))
def markOk (s : SS) : Bool :=
 decide (s.el.length ≤ 33) && decide (s.ar.length ≤ 32) && decide (s.pe.length ≤ 34) && decide (s.rf.length ≤ 16) && decide (s.wd.length ≤ 16) && decide (s.pt ≥ 0) && decide (s.pt ≤ 15)
 && (s.el == [] || inB s 3 12 || inB s 17 19) && (s.ar == [] || inB s 6 10)
 && ((s.k == 9) == (s.dl != 0)) && (s.dl == 0 || s.dl == 34 || s.dl == 39)
 && (s.pe == [] || inB s 16 19) && (s.rf == [] || s.k == 0 || s.k == 17 || inB s 9 10) && (subB s || (s.pt == 0 && s.wd == []))
def markE (s : SS) : Int := bif !inB s 0 19 then 4 else bif markOk s then 0 else 9
def langM (s : SS) : Int := bif s.k == 18 then 3 else bif s.k == 19 then 2 else bif s.k == 9 || s.k == 10 then (bif decide (kindM s ≤ 3) then kindM s else 0) else 0
def subS (s : SS) (x : Bs) : ScR :=
 bif langM s == 1 then
  let r := feedP urlStep s.pt s.wd x
  ⟨bif s.pt != 4 || r.1 != 5 then 0 else 93, { s with pt := r.1, wd := r.2 }⟩
 else bif langM s == 2 then
  let r := feedP jsStep s.pt s.wd x
  ⟨bif r.1 != 15 then 0 else 94, { s with pt := r.1, wd := r.2 }⟩
 else bif langM s == 3 then
  let r := feedP csStep s.pt s.wd x
  ⟨bif r.1 != 9 then 0 else 95, { s with pt := r.1, wd := r.2 }⟩
 else sOk s
def flushS (s : SS) : ScR := subS { s with rf := [] } s.rf
def charS0 (s : SS) (c : UInt8) : ScR := bif c == 38 then sOk { s with rf := [38] } else subS s [c]
def charS (O : Bs → Bs × Nat) (U : Bs → Bool) (s : SS) (c : UInt8) : ScR :=
 bif s.rf != [] then
  bif (O (s.rf ++ [c])).2 == (s.rf ++ [c]).length then subS { s with rf := [] } (O (s.rf ++ [c])).1
  else bif U (s.rf ++ [c]) then sOk { s with rf := s.rf ++ [c] } else (flushS s).then (fun s => charS0 s c)
 else charS0 s c
def toS (s : SS) (k : Int) : SS := ⟨k, s.el, [], 0, [], [], 0, []⟩
def endS (s : SS) : ScR := bif !decide (elmK s.el ≤ 3) then sBad 91 s else bif elmK s.el == 0 then sOk ss0 else sOk (toS s (16 + elmK s.el))
def withinS (s : SS) (c : UInt8) : ScR :=
 bif blankB c then sOk (toS s 5) else bif c == 47 then sOk (toS s 12) else bif c == 62 then endS s else sOk { toS s 6 with ar := [smallB c] }
def tagNameS (s : SS) (c : UInt8) : ScR :=
 bif blankB c || c == 47 || c == 62 then withinS s c else bif decide ((s.el.length : Int) < 32 + (bif s.k == 4 then 1 else 0)) then sOk { s with el := s.el ++ [smallB c] } else sBad 5 s
def attrS (s : SS) (c : UInt8) : ScR :=
 bif blankB c then sOk { s with k := 7 } else bif c == 61 then sOk { s with k := 8 } else bif c == 47 || c == 62 || s.k == 7 then withinS s c
 else bif decide (s.ar.length < 32) then sOk { s with ar := s.ar ++ [smallB c] } else sBad 5 s
section
variable (O : Bs → Bs × Nat) (U : Bs → Bool)
def wantS (s : SS) (c : UInt8) : ScR :=
 bif blankB c then sOk s else bif c == 34 || c == 39 then sOk { s with k := 9, dl := c } else bif c == 62 then endS s else charS O U { s with k := 10 } c
def inValueS (s : SS) (c : UInt8) : ScR :=
 bif s.k == 9 && c == s.dl then (flushS s).then (fun s => sOk (toS s 11)) else bif s.k == 10 && (blankB c || c == 62) then (flushS s).then (fun s => withinS s c) else charS O U s c
def dataS (s : SS) (c : UInt8) : ScR := bif c == 60 then sOk { ss0 with k := 1 } else charS O U s c
def beginS (s : SS) (c : UInt8) : ScR :=
 bif letterB c then sOk { ss0 with k := 3, el := [smallB c] } else bif c == 47 then sOk { ss0 with k := 2 } else bif c == 33 then sOk { ss0 with k := 13 } else bif c == 63 then sOk { ss0 with k := 15 }
 else dataS O U ss0 c
def beginEndS (s : SS) (c : UInt8) : ScR := bif letterB c then sOk { ss0 with k := 4, el := [47, smallB c] } else bif c == 62 then sOk ss0 else sOk { ss0 with k := 15 }
def bogusS (s : SS) (c : UInt8) : ScR := bif c == 62 then sOk ss0 else sOk s
def remarkS (s : SS) (c : UInt8) : ScR :=
 bif s.k == 13 && c == 45 then sOk { s with k := 14 } else bif s.k == 14 && c == 45 then sOk { s with k := 16 } else bif s.k != 16 then bogusS { s with k := 15 } c
 else bif c == 45 && s.pe != [45,45] then sOk { s with pe := s.pe ++ [45] } else bif c == 62 && s.pe == [45,45] then sOk ss0 else bif c != 45 then sOk { s with pe := [] } else sOk s
def startsB (s p : Bs) : Bool := decide (s.length ≥ p.length) && (s.take p.length).map smallB == p.map smallB
def waitsB (s : SS) (t : Bs) : Bool := startsB (60 :: 47 :: s.el) t || (s.k == 19 && startsB [60,33,45,45] t)
def plainS (s : SS) (c : UInt8) : ScR :=
 bif c == 60 then (bif s.k == 17 then (flushS s).then (fun s => sOk { s with pe := [60] }) else sOk { s with pe := [60] }) else bif s.k == 17 then charS O U s c else subS s [c]
def rawS (s : SS) (c : UInt8) : ScR :=
 bif s.pe == [] then plainS O U s c
 else bif waitsB s (s.pe ++ [c]) then (bif (s.pe ++ [c]) != [60,33,45,45] then sOk { s with pe := s.pe ++ [c] } else sBad 94 s)
 else bif (s.pe.length == s.el.length + 2) && s.pe.getD 1 0 == 47 && (blankB c || c == 47 || c == 62) then tagNameS { ss0 with k := 4, el := 47 :: s.el } c
 else (subS { s with pe := [] } s.pe).then (fun s => plainS O U s c)
def stepS (s : SS) (c : UInt8) : ScR :=
 bif s.k == 0 then dataS O U s c else bif s.k == 1 then beginS O U s c else bif s.k == 2 then beginEndS s c else bif s.k == 3 || s.k == 4 then tagNameS s c
 else bif s.k == 5 || s.k == 11 then withinS s c else bif s.k == 6 || s.k == 7 then attrS s c else bif s.k == 8 then wantS O U s c else bif s.k == 9 || s.k == 10 then inValueS O U s c
 else bif s.k == 12 then withinS s c else bif s.k == 13 || s.k == 14 || s.k == 16 then remarkS s c else bif s.k == 15 then bogusS s c else rawS O U s c
def scanStep (s : SS) (c : UInt8) : SS × Int :=
 bif markE s != 0 then (ss0, markE s) else bif (stepS O U s c).e == 0 then ((stepS O U s c).s, 0) else (ss0, (stepS O U s c).e)
def feedL : SS → Bs → SS × Nat × Int
 | s, [] => (s, 0, 0)
 | s, c :: t => bif (scanStep O U s c).2 != 0 then (ss0, 0, (scanStep O U s c).2) else let r := feedL (scanStep O U s c).1 t; (r.1, r.2.1 + 1, r.2.2)
def scanFeed (s : SS) (t : Bs) : SS × Nat × Int := bif markE s != 0 then (ss0, 0, markE s) else feedL O U s t
end
end Go.Mu
namespace Go.Mu
open Go
structure SInv (s : SS) : Prop where
 k0 : 0 ≤ s.k
 k1 : s.k ≤ 19
 el : s.el.length ≤ 33
 el2 : 17 ≤ s.k → s.el.length ≤ 32
 at_ : s.ar.length ≤ 32
 pe : s.pe.length ≤ 34
 rf : s.rf.length ≤ 16
 wd : s.wd.length ≤ 16
 p0 : 0 ≤ s.pt
 p1 : s.pt ≤ 15
 elk : s.el = [] ∨ (3 ≤ s.k ∧ s.k ≤ 12) ∨ (17 ≤ s.k ∧ s.k ≤ 19)
 atk : s.ar = [] ∨ (6 ≤ s.k ∧ s.k ≤ 10)
 dlk : s.k = 9 ↔ s.dl ≠ 0
 dlv : s.dl = 0 ∨ s.dl = 34 ∨ s.dl = 39
 pek : s.pe = [] ∨ (16 ≤ s.k ∧ s.k ≤ 19)
 pe16 : s.k = 16 → s.pe = [] ∨ s.pe = [45] ∨ s.pe = [45, 45]
 rfk : s.rf = [] ∨ s.k = 0 ∨ s.k = 17 ∨ (9 ≤ s.k ∧ s.k ≤ 10)
 ptk : subB s = true ∨ (s.pt = 0 ∧ s.wd = [])
theorem SInv.mark {s : SS} (h : SInv s) : markE s = 0 := by
 have h1 : inB s 0 19 = true := by unfold inB; simp [h.k0, h.k1]
 have h2 : markOk s = true := by
  unfold markOk inB
  simp only [Bool.and_eq_true, Bool.or_eq_true, decide_eq_true_eq, beq_iff_eq]
  have e : ((s.k == 9) = (s.dl != 0)) := by
   have := h.dlk
   by_cases h9 : s.k = 9
   · have h0 := this.1 h9
     rw [h9]; simp [h0]
   · have h0 : s.dl = 0 := by
      by_cases h0 : s.dl = 0
      · exact h0
      · exact absurd (this.2 h0) h9
     rw [h0]; simp [h9]
  have a1 := h.elk
  have a2 := h.atk
  have a3 := h.pek
  have a4 := h.rfk
  have a5 := h.dlv
  refine ⟨⟨⟨⟨⟨⟨⟨⟨⟨⟨⟨⟨⟨h.el, h.at_⟩, h.pe⟩, h.rf⟩, h.wd⟩, h.p0⟩, h.p1⟩, ?_⟩, ?_⟩, e⟩, ?_⟩, ?_⟩, ?_⟩, h.ptk⟩
  · rcases a1 with a | a | a
    · exact .inl (.inl a)
    · exact .inl (.inr ⟨a.1, a.2⟩)
    · exact .inr ⟨a.1, a.2⟩
  · rcases a2 with a | a
    · exact .inl a
    · exact .inr ⟨a.1, a.2⟩
  · rcases a5 with a | a | a
    · exact .inl (.inl a)
    · exact .inl (.inr a)
    · exact .inr a
  · rcases a3 with a | a
    · exact .inl a
    · exact .inr ⟨a.1, a.2⟩
  · rcases a4 with a | a | a | a
    · exact .inl (.inl (.inl a))
    · exact .inl (.inl (.inr a))
    · exact .inl (.inr a)
    · exact .inr ⟨a.1, a.2⟩
 unfold markE
 rw [h1, h2]; rfl
theorem ss0_inv : SInv ss0 := by
 constructor <;> simp [ss0]
def RInv (r : ScR) : Prop := r.e = 0 → SInv r.s
theorem rOk {s : SS} (h : SInv s) : RInv (sOk s) := fun _ => h
theorem rBad {e : Int} {s : SS} (h : e ≠ 0) : RInv (sBad e s) := fun h0 => absurd h0 h
theorem RInv.then {r : ScR} {f : SS → ScR} (h : RInv r) (g : SInv r.s → RInv (f r.s)) : RInv (r.then f) := by
 unfold ScR.then
 by_cases h0 : r.e = 0
 · have : (r.e == 0) = true := by simp [h0]
   rw [this]; exact g (h h0)
 · have : (r.e == 0) = false := by simp [h0]
   rw [this]; exact h
theorem r_bif {b : Bool} {x y : ScR} (h1 : b = true → RInv x) (h2 : b = false → RInv y) : RInv (bif b then x else y) := by
 cases b
 · exact h2 rfl
 · exact h1 rfl
def PW (r : Int × Bs) : Prop := 0 ≤ r.1 ∧ r.1 ≤ 15 ∧ r.2.length ≤ 16
theorem pw_bif {b : Bool} {x y : Int × Bs} (h1 : b = true → PW x) (h2 : b = false → PW y) : PW (bif b then x else y) := by
 cases b
 · exact h2 rfl
 · exact h1 rfl
theorem pw_nil {p : Int} (h : 0 ≤ p ∧ p ≤ 15) : PW (p, []) := ⟨h.1, h.2, by simp⟩
theorem feedP_pw {f : Int → Bs → UInt8 → Int × Bs} (hf : ∀ p w c, PW (p, w) → PW (f p w c)) : ∀ (s : Bs) (p : Int) (w : Bs), PW (p, w) → PW (feedP f p w s)
 | [], p, w, h => h
 | c :: s, p, w, h => feedP_pw hf s _ _ (hf p w c h)
theorem app_len {w : Bs} {c : UInt8} (h : decide (w.length < 16) = true) : (w ++ [c]).length ≤ 16 := by
 have := of_decide_eq_true h
 rw [List.length_append]; simp only [List.length_singleton]; omega
theorem urlFirst_pw (w : Bs) (c : UInt8) (hw : w.length ≤ 16) : PW (urlFirst w c) := by
 unfold urlFirst
 repeat' (first | with_reducible apply pw_bif <;> intro)
 all_goals first
  | exact pw_nil (by omega)
  | exact ⟨by simp, by simp, hw⟩
  | (rename_i h; exact ⟨by simp, by simp, app_len h⟩)
theorem urlStep_pw (p : Int) (w : Bs) (c : UInt8) (h : PW (p, w)) : PW (urlStep p w c) := by
 obtain ⟨h1, h2, h3⟩ := h
 simp only at h1 h2 h3
 unfold urlStep
 repeat' (first | with_reducible apply pw_bif <;> intro)
 all_goals first
  | exact pw_nil (by omega)
  | exact urlFirst_pw _ _ (by simp)
  | exact urlFirst_pw _ _ h3
theorem jsEnded_r (p : Int) (w : Bs) (h : 0 ≤ p ∧ p ≤ 15) : 0 ≤ jsEnded p w ∧ jsEnded p w ≤ 15 := by
 unfold jsEnded
 cases (w != [] && jsWords.contains w)
 · exact h
 · exact ⟨by simp, by simp⟩
theorem jsCode_pw (p : Int) (w : Bs) (c : UInt8) (h : PW (p, w)) : PW (jsCode p w c) := by
 obtain ⟨h1, h2, h3⟩ := h
 simp only at h1 h2 h3
 have h4 := jsEnded_r p w ⟨h1, h2⟩
 unfold jsCode
 repeat' (first | with_reducible apply pw_bif <;> intro)
 all_goals first
  | exact pw_nil (by omega)
  | (cases hw : decide (w.length < 16)
     · exact ⟨by simp, by simp, h3⟩
     · exact ⟨by simp, by simp, app_len hw⟩)
  | exact pw_nil h4
theorem i_bif {b : Bool} {x y : Int} {P : Int → Prop} (h1 : P x) (h2 : P y) : P (bif b then x else y) := by
 cases b
 · exact h2
 · exact h1
def PR (x : Int) : Prop := 0 ≤ x ∧ x ≤ 15
theorem jsMatched_r (p : Int) (c : UInt8) (h : 0 ≤ p ∧ p ≤ 14) : PR (jsMatched p c) := by
 unfold jsMatched
 rw [wrap_of (n := p + 1) (by omega) (by omega)]
 repeat' with_reducible apply i_bif (P := PR)
 all_goals (unfold PR; omega)
theorem jsQuoted_r (p : Int) (c : UInt8) (h : 0 ≤ p ∧ p ≤ 15) : PR (jsQuoted p c) := by
 unfold jsQuoted
 repeat' with_reducible apply i_bif (P := PR)
 all_goals (unfold PR; omega)
theorem jsRemark_r (p : Int) (c : UInt8) : PR (jsRemark p c) := by
 unfold jsRemark
 repeat' with_reducible apply i_bif (P := PR)
 all_goals (unfold PR; omega)
theorem pw_pr {p : Int} (h : PR p) : PW (p, []) := ⟨h.1, h.2, by simp⟩
theorem jsSlashed_pw (p : Int) (c : UInt8) : PW (jsSlashed p c) := by
 unfold jsSlashed
 repeat' (first | with_reducible apply pw_bif <;> intro)
 all_goals first
  | exact pw_pr (jsMatched_r _ _ (by omega))
  | exact jsCode_pw _ _ _ ⟨by simp, by simp, by simp⟩
  | exact pw_nil (by omega)
theorem jsStep_pw (p : Int) (w : Bs) (c : UInt8) (h : PW (p, w)) : PW (jsStep p w c) := by
 have hh := h
 obtain ⟨h1, h2, h3⟩ := h
 simp only at h1 h2 h3
 unfold jsStep
 repeat' (first | with_reducible apply pw_bif <;> intro)
 · exact jsCode_pw _ _ _ hh
 · exact pw_pr (jsQuoted_r _ _ ⟨h1, h2⟩)
 · rename_i h; simp only [Bool.or_eq_true, beq_iff_eq] at h; exact pw_nil (by omega)
 · exact pw_pr (i_bif (P := PR) (by unfold PR; omega) (by unfold PR; omega))
 · exact pw_pr (jsRemark_r _ _)
 · rename_i h; simp only [Bool.or_eq_true, beq_iff_eq] at h; exact pw_pr (jsMatched_r _ _ (by omega))
 · rename_i h; simp only [Bool.or_eq_true, beq_iff_eq] at h; exact pw_nil (by omega)
 · exact jsSlashed_pw _ _
 · exact pw_nil (by omega)
theorem csCode_pw (w : Bs) (c : UInt8) (hw : w.length ≤ 16) : PW (csCode w c) := by
 unfold csCode
 repeat' (first | with_reducible apply pw_bif <;> intro)
 all_goals first
  | exact pw_nil (by omega)
  | exact ⟨by simp, by simp, hw⟩
  | (rename_i h; simp only [Bool.and_eq_true] at h; exact ⟨by simp, by simp, app_len h.2⟩)
  | exact ⟨by decide, by decide, by decide⟩
theorem csQuoted_r (p : Int) (c : UInt8) (h : 0 ≤ p ∧ p ≤ 13) : PR (csQuoted p c) := by
 unfold csQuoted
 rw [wrap_of (n := p + 2) (by omega) (by omega)]
 repeat' with_reducible apply i_bif (P := PR)
 all_goals (unfold PR; omega)
theorem csRemark_pw (p : Int) (c : UInt8) : PW (csRemark p c) := by
 unfold csRemark
 repeat' (first | with_reducible apply pw_bif <;> intro)
 all_goals first
  | exact pw_nil (by omega)
  | exact csCode_pw _ _ (by simp)
theorem csStep_pw (p : Int) (w : Bs) (c : UInt8) (h : PW (p, w)) : PW (csStep p w c) := by
 obtain ⟨h1, h2, h3⟩ := h
 simp only at h1 h2 h3
 unfold csStep
 repeat' (first | with_reducible apply pw_bif <;> intro)
 · exact csCode_pw _ _ h3
 · rename_i h; simp only [Bool.or_eq_true, beq_iff_eq] at h; exact pw_pr (csQuoted_r _ _ (by omega))
 · rename_i h; simp only [Bool.or_eq_true, beq_iff_eq] at h; exact pw_nil (by omega)
 · exact csRemark_pw _ _
 · exact pw_pr (i_bif (P := PR) (by unfold PR; omega) (by unfold PR; omega))
 · exact pw_nil (by omega)
theorem lang_sub {s : SS} (h : langM s ≠ 0) (hk : 0 ≤ kindM s) : subB s = true := by
 unfold langM at h
 unfold subB inB
 by_cases h18 : s.k = 18
 · rw [h18]; rfl
 by_cases h19 : s.k = 19
 · rw [h19]; rfl
 have e1 : (s.k == 18) = false := by simp [h18]
 have e2 : (s.k == 19) = false := by simp [h19]
 rw [e1, e2, cond_false, cond_false] at h
 cases h9 : (s.k == 9 || s.k == 10) with
 | false => rw [h9, cond_false] at h; exact absurd rfl h
 | true =>
  rw [h9, cond_true] at h
  cases h3 : decide (kindM s ≤ 3) with
  | false => rw [h3, cond_false] at h; exact absurd rfl h
  | true =>
   rw [h3, cond_true] at h
   simp only [Bool.or_eq_true, beq_iff_eq] at h9
   simp only [Bool.or_eq_true, Bool.and_eq_true, decide_eq_true_eq]
   exact .inr ⟨⟨⟨by omega, by omega⟩, by omega⟩, trivial⟩
theorem atrK_r (el a : Bs) : 0 ≤ atrK el a := by
 unfold atrK
 repeat' with_reducible apply i_bif (P := fun x => 0 ≤ x)
 all_goals omega
theorem kindM_r (s : SS) : 0 ≤ kindM s := by
 unfold kindM
 apply i_bif (P := fun x => 0 ≤ x)
 · omega
 · exact atrK_r _ _
theorem SInv.part {s : SS} (h : SInv s) (hs : subB s = true) {r : Int × Bs} (hr : PW r) : SInv { s with pt := r.1, wd := r.2 } :=
 ⟨h.k0, h.k1, h.el, h.el2, h.at_, h.pe, h.rf, hr.2.2, hr.1, hr.2.1, h.elk, h.atk, h.dlk, h.dlv, h.pek, h.pe16, h.rfk, .inl hs⟩
theorem SInv.ref {s : SS} (h : SInv s) {t : Bs} (ht : t.length ≤ 16) (hk : t = [] ∨ s.k = 0 ∨ s.k = 17 ∨ (9 ≤ s.k ∧ s.k ≤ 10)) : SInv { s with rf := t } :=
 ⟨h.k0, h.k1, h.el, h.el2, h.at_, h.pe, ht, h.wd, h.p0, h.p1, h.elk, h.atk, h.dlk, h.dlv, h.pek, h.pe16, hk, h.ptk⟩
theorem SInv.pend {s : SS} (h : SInv s) {t : Bs} (ht : t.length ≤ 34) (hk : t = [] ∨ (17 ≤ s.k ∧ s.k ≤ 19)) : SInv { s with pe := t } :=
 ⟨h.k0, h.k1, h.el, h.el2, h.at_, ht, h.rf, h.wd, h.p0, h.p1, h.elk, h.atk, h.dlk, h.dlv, by rcases hk with a | a; exact .inl a; exact .inr ⟨by simp only; omega, a.2⟩, fun h16 => by
  simp only at h16
  rcases hk with a | a
  · exact .inl a
  · omega, h.rfk, h.ptk⟩
theorem sub_same (s : SS) (x : Bs) : (subS s x).s.k = s.k ∧ (subS s x).s.el = s.el ∧ (subS s x).s.ar = s.ar ∧ (subS s x).s.rf = s.rf ∧ (subS s x).s.pe = s.pe ∧ (subS s x).s.dl = s.dl := by
 unfold subS
 cases langM s == 1
 · cases langM s == 2
   · cases langM s == 3 <;> exact ⟨rfl, rfl, rfl, rfl, rfl, rfl⟩
   · exact ⟨rfl, rfl, rfl, rfl, rfl, rfl⟩
 · exact ⟨rfl, rfl, rfl, rfl, rfl, rfl⟩
theorem sub_inv {s : SS} (h : SInv s) (x : Bs) : RInv (subS s x) := by
 have hp : PW (s.pt, s.wd) := ⟨h.p0, h.p1, h.wd⟩
 unfold subS
 refine r_bif (fun h1 => fun _ => ?_) (fun _ => r_bif (fun h1 => fun _ => ?_) (fun _ => r_bif (fun h1 => fun _ => ?_) (fun _ => rOk h)))
 · exact h.part (lang_sub (by rw [beq_iff_eq] at h1; omega) (kindM_r s)) (feedP_pw urlStep_pw x _ _ hp)
 · exact h.part (lang_sub (by rw [beq_iff_eq] at h1; omega) (kindM_r s)) (feedP_pw jsStep_pw x _ _ hp)
 · exact h.part (lang_sub (by rw [beq_iff_eq] at h1; omega) (kindM_r s)) (feedP_pw csStep_pw x _ _ hp)
theorem flush_inv {s : SS} (h : SInv s) : RInv (flushS s) := sub_inv (h.ref (t := []) (by simp) (.inl rfl)) _
abbrev RfK (s : SS) : Prop := s.k = 0 ∨ s.k = 17 ∨ (9 ≤ s.k ∧ s.k ≤ 10)
theorem char0_inv {s : SS} (h : SInv s) (hk : RfK s) (c : UInt8) : RInv (charS0 s c) := r_bif (fun _ => rOk (h.ref (by simp) (.inr hk))) (fun _ => sub_inv h _)
section
variable {O : Bs → Bs × Nat} {U : Bs → Bool} (hU : ∀ t, U t = true → t.length ≤ 16)
include hU
theorem char_inv {s : SS} (h : SInv s) (hk : RfK s) (c : UInt8) : RInv (charS O U s c) := by
 unfold charS
 refine r_bif (fun _ => r_bif (fun _ => sub_inv (h.ref (t := []) (by simp) (.inl rfl)) _) (fun _ => r_bif (fun hu => rOk (h.ref (hU _ hu) (.inr hk))) (fun _ => (flush_inv h).then fun h' => char0_inv h' (by
  have := (sub_same { s with rf := [] } s.rf).1
  unfold flushS RfK
  rw [this]
  exact hk) c))) (fun _ => char0_inv h hk c)
end
theorem to_inv {s : SS} {k : Int} (h1 : s.el.length ≤ 33) (hk : (5 ≤ k ∧ k ≤ 12 ∧ k ≠ 9) ∨ (17 ≤ k ∧ k ≤ 19)) (h2 : 17 ≤ k → s.el.length ≤ 32) : SInv (toS s k) := by
 unfold toS
 constructor <;> simp only [List.length_nil]
 all_goals first | omega | (simp; done) | exact h1 | exact h2 | (right; omega) | skip
 all_goals first | (constructor <;> intro h <;> first | omega | exact absurd rfl h) | (left; rfl) | (right; exact ⟨trivial, trivial⟩) | (intro; left; rfl) | skip
theorem elmK_el {s : Bs} (h : elmK s ≤ 3) (h0 : elmK s ≠ 0) : s.length ≤ 32 ∧ 1 ≤ elmK s := by
 unfold elmK at *
 cases h1 : (s == [116,105,116,108,101] || s == [116,101,120,116,97,114,101,97]) with
 | true =>
  simp only [Bool.or_eq_true, beq_iff_eq] at h1
  rcases h1 with h1 | h1 <;> rw [h1] <;> decide
 | false =>
  rw [h1] at h h0
  simp only [cond_false] at h h0 ⊢
  cases h2 : (s == [115,116,121,108,101]) with
  | true => rw [beq_iff_eq] at h2; rw [h2]; decide
  | false =>
   rw [h2] at h h0
   simp only [cond_false] at h h0 ⊢
   cases h3 : (s == [115,99,114,105,112,116]) with
   | true => rw [beq_iff_eq] at h3; rw [h3]; decide
   | false =>
    rw [h3] at h h0
    simp only [cond_false] at h h0
    revert h h0
    cases (s == [112,108,97,105,110,116,101,120,116] || s == [120,109,112] || s == [105,102,114,97,109,101] || s == [110,111,101,109,98,101,100] || s == [110,111,102,114,97,109,101,115] || s == [110,111,115,99,114,105,112,116])
    · intro _ h0; exact absurd rfl h0
    · intro h; exact absurd h (by decide)
theorem end_inv {s : SS} (h1 : s.el.length ≤ 33) : RInv (endS s) := by
 unfold endS
 refine r_bif (fun _ => rBad (by decide)) (fun h => r_bif (fun _ => rOk ss0_inv) (fun h0 => rOk ?_))
 have h : elmK s.el ≤ 3 := by
  cases hd : decide (elmK s.el ≤ 3) with
  | true => exact of_decide_eq_true hd
  | false => rw [hd] at h; exact absurd h (by decide)
 obtain ⟨a, b⟩ := elmK_el h (by simpa using h0)
 exact to_inv h1 (.inr (by omega)) (fun _ => a)
theorem SInv.attr {s : SS} (h : SInv s) {t : Bs} (ht : t.length ≤ 32) (hk : s.k = 6 ∨ s.k = 7) : SInv { s with ar := t } :=
 ⟨h.k0, h.k1, h.el, h.el2, ht, h.pe, h.rf, h.wd, h.p0, h.p1, h.elk, .inr ⟨by simp only; omega, by simp only; omega⟩, h.dlk, h.dlv, h.pek, h.pe16, h.rfk, by
  rcases h.ptk with a | a
  · unfold subB inB at a
    simp only [Bool.or_eq_true, Bool.and_eq_true, decide_eq_true_eq] at a
    omega
  · exact .inr a⟩
theorem within_inv {s : SS} (h1 : s.el.length ≤ 33) (c : UInt8) : RInv (withinS s c) := by
 unfold withinS
 refine r_bif (fun _ => rOk (to_inv h1 (by omega) (by omega))) (fun _ => r_bif (fun _ => rOk (to_inv h1 (by omega) (by omega))) (fun _ => r_bif (fun _ => end_inv h1) (fun _ => rOk ?_)))
 exact (to_inv (s := s) (k := 6) h1 (by omega) (by omega)).attr (by simp) (.inl rfl)
theorem SInv.elem {s : SS} (h : SInv s) {t : Bs} (ht : t.length ≤ 33) (hk : s.k = 3 ∨ s.k = 4) : SInv { s with el := t } :=
 ⟨h.k0, h.k1, ht, by simp only; omega, h.at_, h.pe, h.rf, h.wd, h.p0, h.p1, .inr (.inl ⟨by simp only; omega, by simp only; omega⟩), h.atk, h.dlk, h.dlv, h.pek, h.pe16, h.rfk, by
  rcases h.ptk with a | a
  · unfold subB inB at a
    simp only [Bool.or_eq_true, Bool.and_eq_true, decide_eq_true_eq] at a
    omega
  · exact .inr a⟩
theorem tagName_inv {s : SS} (h : SInv s) (hk : s.k = 3 ∨ s.k = 4) (c : UInt8) : RInv (tagNameS s c) := by
 unfold tagNameS
 refine r_bif (fun _ => within_inv h.el c) (fun _ => r_bif (fun hl => rOk (h.elem ?_ hk)) (fun _ => rBad (by decide)))
 have hl := of_decide_eq_true hl
 rw [List.length_append, List.length_singleton]
 revert hl
 cases s.k == 4 <;> simp only [cond_true, cond_false] <;> omega
theorem SInv.kind {s : SS} (h : SInv s) {k : Int} (hs : 6 ≤ s.k ∧ s.k ≤ 8) (hk : 6 ≤ k ∧ k ≤ 10 ∧ k ≠ 9) : SInv { s with k := k } := by
 have hp : s.pt = 0 ∧ s.wd = [] := by
  rcases h.ptk with a | a
  · unfold subB inB at a
    simp only [Bool.or_eq_true, Bool.and_eq_true, decide_eq_true_eq] at a
    omega
  · exact a
 have hd : s.dl = 0 := by
  by_cases h0 : s.dl = 0
  · exact h0
  · have := h.dlk.2 h0; omega
 refine ⟨by simp only; omega, by simp only; omega, h.el, by simp only; omega, h.at_, h.pe, h.rf, h.wd, h.p0, h.p1, .inr (.inl ⟨by simp only; omega, by simp only; omega⟩), .inr ⟨by simp only; omega, by simp only; omega⟩, ⟨fun h9 => by simp only at h9; omega, fun h9 => absurd hd h9⟩, h.dlv, ?_, by simp only; omega, ?_, .inr hp⟩
 · rcases h.pek with a | a
   · exact .inl a
   · omega
 · rcases h.rfk with a | a | a | a
   · exact .inl a
   · omega
   · omega
   · omega
theorem attr_inv {s : SS} (h : SInv s) (hk : s.k = 6 ∨ s.k = 7) (c : UInt8) : RInv (attrS s c) := by
 unfold attrS
 refine r_bif (fun _ => rOk (h.kind (by omega) (by omega))) (fun _ => r_bif (fun _ => rOk (h.kind (by omega) (by omega))) (fun _ => r_bif (fun _ => within_inv h.el c) (fun _ => r_bif (fun hl => rOk (h.attr ?_ hk)) (fun _ => rBad (by decide)))))
 have hl := of_decide_eq_true hl
 rw [List.length_append, List.length_singleton]
 omega
section
variable {O : Bs → Bs × Nat} {U : Bs → Bool} (hU : ∀ t, U t = true → t.length ≤ 16)
include hU
theorem want_inv {s : SS} (h : SInv s) (hk : s.k = 8) (c : UInt8) : RInv (wantS O U s c) := by
 have hp : s.pt = 0 ∧ s.wd = [] := by
  rcases h.ptk with a | a
  · unfold subB inB at a
    simp only [Bool.or_eq_true, Bool.and_eq_true, decide_eq_true_eq] at a
    omega
  · exact a
 unfold wantS
 refine r_bif (fun _ => rOk h) (fun _ => r_bif (fun hc => rOk ?_) (fun _ => r_bif (fun _ => end_inv h.el) (fun _ => char_inv hU (h.kind (k := 10) (by omega) (by omega)) (.inr (.inr ⟨by simp, by simp⟩)) c)))
 simp only [Bool.or_eq_true, beq_iff_eq] at hc
 have hc0 : c ≠ 0 := by rintro rfl; revert hc; decide
 refine ⟨by simp, by simp, h.el, by simp, h.at_, h.pe, h.rf, h.wd, h.p0, h.p1, .inr (.inl ⟨by simp, by simp⟩), .inr ⟨by simp, by simp⟩, ⟨fun _ => hc0, fun _ => rfl⟩, .inr hc, ?_, by simp, ?_, .inr hp⟩
 · rcases h.pek with a | a
   · exact .inl a
   · omega
 · exact .inr (.inr (.inr ⟨by simp, by simp⟩))
theorem inValue_inv {s : SS} (h : SInv s) (hk : s.k = 9 ∨ s.k = 10) (c : UInt8) : RInv (inValueS O U s c) := by
 have he : (flushS s).s.el = s.el := (sub_same { s with rf := [] } s.rf).2.1
 unfold inValueS
 refine r_bif (fun _ => (flush_inv h).then fun _ => rOk (to_inv (by rw [he]; exact h.el) (by omega) (by omega))) (fun _ => r_bif (fun _ => (flush_inv h).then fun _ => within_inv (by rw [he]; exact h.el) c) (fun _ => char_inv hU h (.inr (.inr ⟨by omega, by omega⟩)) c))
theorem data_inv {s : SS} (h : SInv s) (hk : s.k = 0) (c : UInt8) : RInv (dataS O U s c) := by
 unfold dataS
 refine r_bif (fun _ => rOk ?_) (fun _ => char_inv hU h (.inl hk) c)
 constructor <;> simp [ss0]
theorem begin_inv (s : SS) (c : UInt8) : RInv (beginS O U s c) := by
 unfold beginS
 refine r_bif (fun _ => rOk ?_) (fun _ => r_bif (fun _ => rOk ?_) (fun _ => r_bif (fun _ => rOk ?_) (fun _ => r_bif (fun _ => rOk ?_) (fun _ => data_inv hU ss0_inv rfl c))))
 all_goals (constructor <;> simp [ss0])
theorem plain_inv {s : SS} (h : SInv s) (hk : 17 ≤ s.k) (c : UInt8) : RInv (plainS O U s c) := by
 have h1 := h.k1
 have he : (flushS s).s.k = s.k := (sub_same { s with rf := [] } s.rf).1
 unfold plainS
 refine r_bif (fun _ => r_bif (fun _ => (flush_inv h).then fun h' => rOk (h'.pend (by simp) (.inr (by rw [he]; omega)))) (fun _ => rOk (h.pend (by simp) (.inr (by omega))))) (fun _ => r_bif (fun h17 => char_inv hU h (.inr (.inl (by simpa using h17))) c) (fun _ => sub_inv h _))
omit hU in
theorem starts_len {s p : Bs} (h : startsB s p = true) : p.length ≤ s.length := by
 unfold startsB at h
 simp only [Bool.and_eq_true, decide_eq_true_eq] at h
 exact h.1
theorem raw_inv {s : SS} (h : SInv s) (hk : 17 ≤ s.k) (c : UInt8) : RInv (rawS O U s c) := by
 have h1 := h.k1
 have hl := h.el2 hk
 unfold rawS
 refine r_bif (fun _ => plain_inv hU h hk c) (fun _ => r_bif (fun hw => r_bif (fun _ => rOk (h.pend ?_ (.inr (by omega)))) (fun _ => rBad (by decide))) (fun _ => r_bif (fun _ => ?_) (fun _ => ?_)))
 · unfold waitsB at hw
   simp only [Bool.or_eq_true, Bool.and_eq_true] at hw
   rcases hw with hw | hw
   · have := starts_len hw
     simp only [List.length_cons] at this
     omega
   · have := starts_len hw.2
     simp only [List.length_cons, List.length_nil] at this
     omega
 · refine tagName_inv ?_ (.inr rfl) c
   constructor <;> simp [ss0] <;> omega
 · have he : (subS { s with pe := [] } s.pe).s.k = s.k := (sub_same { s with pe := [] } s.pe).1
   exact (sub_inv (h.pend (t := []) (by simp) (.inl rfl)) _).then fun h' => plain_inv hU h' (by rw [he]; exact hk) c
omit hU in
theorem bogus_inv {s : SS} (h : SInv s) (c : UInt8) : RInv (bogusS s c) := r_bif (fun _ => rOk ss0_inv) (fun _ => rOk h)
omit hU in
theorem remark_inv {s : SS} (h : SInv s) (hk : s.k = 13 ∨ s.k = 14 ∨ s.k = 16) (c : UInt8) : RInv (remarkS s c) := by
 have hp : s.pt = 0 ∧ s.wd = [] := by
  rcases h.ptk with a | a
  · unfold subB inB at a
    simp only [Bool.or_eq_true, Bool.and_eq_true, decide_eq_true_eq] at a
    omega
  · exact a
 have hd : s.dl = 0 := by
  by_cases h0 : s.dl = 0
  · exact h0
  · have := h.dlk.2 h0; omega
 have hel : s.el = [] := by rcases h.elk with a | a | a; exact a; omega; omega
 have hat : s.ar = [] := by rcases h.atk with a | a; exact a; omega
 have hrf : s.rf = [] := by rcases h.rfk with a | a | a | a; exact a; omega; omega; omega
 have hpe : s.k ≠ 16 → s.pe = [] := fun hn => by rcases h.pek with a | a; exact a; omega
 have hmk : ∀ k : Int, (k = 14 ∨ k = 15 ∨ k = 16) → s.k ≠ 16 → SInv { s with k := k } := fun k hk' hn => by
  have := hpe hn
  constructor <;> simp [hel, hat, hrf, hd, this, hp.1, hp.2] <;> omega
 unfold remarkS
 refine r_bif (fun h1 => rOk ?_) (fun _ => r_bif (fun h1 => rOk ?_) (fun _ => r_bif (fun h1 => ?_) (fun h1 => ?_)))
 · simp only [Bool.and_eq_true, beq_iff_eq] at h1
   exact hmk _ (by omega) (by omega)
 · simp only [Bool.and_eq_true, beq_iff_eq] at h1
   exact hmk _ (by omega) (by omega)
 · exact bogus_inv (hmk _ (by omega) (by simpa using h1)) c
 · have h16 : s.k = 16 := by simpa using h1
   have hset : ∀ t : Bs, (t = [] ∨ t = [45] ∨ t = [45, 45]) → SInv { s with pe := t } := fun t ht => by
    have hl : t.length ≤ 2 := by rcases ht with rfl | rfl | rfl <;> simp
    exact ⟨h.k0, h.k1, h.el, h.el2, h.at_, by simp only; omega, h.rf, h.wd, h.p0, h.p1, h.elk, h.atk, h.dlk, h.dlv, .inr ⟨by simp only; omega, by simp only; omega⟩, fun _ => ht, h.rfk, h.ptk⟩
   refine r_bif (fun h2 => rOk (hset _ ?_)) (fun _ => r_bif (fun _ => rOk ss0_inv) (fun _ => r_bif (fun _ => rOk (hset _ (.inl rfl))) (fun _ => rOk h)))
   simp only [Bool.and_eq_true, bne_iff_ne] at h2
   rcases h.pe16 h16 with a | a | a
   · exact .inr (.inl (by rw [a]; rfl))
   · exact .inr (.inr (by rw [a]; rfl))
   · exact absurd a h2.2
theorem step_inv {s : SS} (h : SInv s) (c : UInt8) : RInv (stepS O U s c) := by
 have h0 := h.k0
 have h1 := h.k1
 unfold stepS
 refine r_bif (fun a => data_inv hU h (by simpa using a) c) (fun a0 => r_bif (fun a => begin_inv hU s c) (fun a1 => r_bif (fun a => ?_) (fun a2 => r_bif (fun a => tagName_inv h (by simpa using a) c) (fun a3 => r_bif (fun a => within_inv h.el c) (fun a4 => r_bif (fun a => attr_inv h (by simpa using a) c) (fun a5 => r_bif (fun a => want_inv hU h (by simpa using a) c) (fun a6 => r_bif (fun a => inValue_inv hU h (by simpa using a) c) (fun a7 => r_bif (fun a => within_inv h.el c) (fun a8 => r_bif (fun a => remark_inv h (by simpa [or_assoc] using a) c) (fun a9 => r_bif (fun a => bogus_inv h c) (fun a10 => raw_inv hU h ?_ c)))))))))))
 · unfold beginEndS
   refine r_bif (fun _ => rOk ?_) (fun _ => r_bif (fun _ => rOk ss0_inv) (fun _ => rOk ?_))
   all_goals (constructor <;> simp [ss0])
 · simp only [Bool.or_eq_false_iff, beq_eq_false_iff_ne] at *
   omega
theorem scanStep_inv {s : SS} (h : SInv s) (c : UInt8) : SInv (scanStep O U s c).1 := by
 unfold scanStep
 rw [h.mark]
 have := step_inv (O := O) hU h c
 revert this
 generalize stepS O U s c = r
 intro hr
 simp only [bne_self_eq_false, cond_false]
 cases he : r.e == 0 with
 | false => exact ss0_inv
 | true => exact hr (by simpa using he)
theorem feedL_inv : ∀ (t : Bs) {s : SS}, SInv s → SInv (feedL O U s t).1
 | [], s, h => h
 | c :: t, s, h => by
  unfold feedL
  cases (scanStep O U s c).2 != 0 with
  | true => exact ss0_inv
  | false => exact feedL_inv t (scanStep_inv hU h c)
theorem scanFeed_inv {s : SS} (h : SInv s) (t : Bs) : SInv (scanFeed O U s t).1 := by
 unfold scanFeed
 rw [h.mark]
 exact feedL_inv hU t h
omit hU in
theorem feedL_app : ∀ (a b : Bs) (s : SS), feedL O U s (a ++ b) = bif (feedL O U s a).2.2 != 0 then feedL O U s a else ((feedL O U (feedL O U s a).1 b).1, (feedL O U s a).2.1 + (feedL O U (feedL O U s a).1 b).2.1, (feedL O U (feedL O U s a).1 b).2.2)
 | [], b, s => by simp [feedL]
 | c :: a, b, s => by
  have e1 : feedL O U s (c :: (a ++ b)) = bif (scanStep O U s c).2 != 0 then (ss0, 0, (scanStep O U s c).2) else ((feedL O U (scanStep O U s c).1 (a ++ b)).1, (feedL O U (scanStep O U s c).1 (a ++ b)).2.1 + 1, (feedL O U (scanStep O U s c).1 (a ++ b)).2.2) := rfl
  have e2 : feedL O U s (c :: a) = bif (scanStep O U s c).2 != 0 then (ss0, 0, (scanStep O U s c).2) else ((feedL O U (scanStep O U s c).1 a).1, (feedL O U (scanStep O U s c).1 a).2.1 + 1, (feedL O U (scanStep O U s c).1 a).2.2) := rfl
  rw [List.cons_append, e1, e2, feedL_app a b]
  cases h : (scanStep O U s c).2 != 0 with
  | true => simp only [cond_true, h]
  | false =>
   simp only [cond_false]
   generalize feedL O U (scanStep O U s c).1 a = r
   cases r.2.2 != 0 with
   | true => rfl
   | false =>
    simp only [cond_false]
    generalize feedL O U r.1 b = q
    have : r.2.1 + q.2.1 + 1 = r.2.1 + 1 + q.2.1 := by omega
    rw [this]
omit hU in
end
end Go.Mu
namespace Go.Mu
open Go
def urlHole (p : Int) : Int × Int := bif p == 0 then (4, 1) else bif p == 2 || p == 3 then (p, p) else (p, 0)
def jsHole (p : Int) : Int × Int := bif p == 0 || p == 1 then (1, 1) else bif p == 2 || p == 3 then (p, 2) else (p, 0)
def inAttrM (s : SS) : SS × Int :=
 bif hpB [47] s.el then (s, 0)
 else bif kindM s == 0 then (s, 3)
 else bif kindM s == 1 then ({ s with pt := (urlHole s.pt).1, wd := [] }, bif decide ((urlHole s.pt).2 > 0) then (urlHole s.pt).2 + 3 else (urlHole s.pt).2)
 else bif kindM s == 2 then ({ s with pt := (jsHole s.pt).1, wd := [] }, bif decide ((jsHole s.pt).2 > 0) then (jsHole s.pt).2 + 8 else (jsHole s.pt).2)
 else bif kindM s == 3 then (bif s.pt == 0 then ({ s with pt := 0, wd := [63] }, 12) else ({ s with wd := [] }, 0))
 else (s, 0)
def inRawM (s : SS) : SS × Int :=
 bif s.k == 18 then (bif s.pt == 0 then ({ s with pt := 0, wd := [63] }, 11) else ({ s with wd := [] }, 0))
 else ({ s with pt := (jsHole s.pt).1, wd := [] }, bif decide ((jsHole s.pt).2 > 0) then (jsHole s.pt).2 + 6 else (jsHole s.pt).2)
def holeR (s : SS) : SS × Int :=
 bif s.pe == [] && s.rf == [] then (bif s.k == 0 then (s, 1) else bif s.k == 17 then (s, 2) else bif s.k == 9 then inAttrM s else bif s.k == 18 || s.k == 19 then inRawM s else (s, 0)) else (s, 0)
def holeM (s : SS) : SS × Int × Int := bif markE s != 0 then (ss0, 0, markE s) else bif (holeR s).2 == 0 then (ss0, 0, 91) else ((holeR s).1, (holeR s).2, 0)
def JOk (s : SS) : Prop := s.wd = [] ∨ langM s ≠ 2 ∨ s.pt = 0 ∨ s.pt = 1
def RJ (r : ScR) : Prop := r.e = 0 → JOk r.s
theorem jOk {s : SS} (h : JOk s) : RJ (sOk s) := fun _ => h
theorem jBad {e : Int} {s : SS} (h : e ≠ 0) : RJ (sBad e s) := fun h0 => absurd h0 h
theorem j_bif {b : Bool} {x y : ScR} (h1 : b = true → RJ x) (h2 : b = false → RJ y) : RJ (bif b then x else y) := by
 cases b
 · exact h2 rfl
 · exact h1 rfl
theorem RJ.then {r : ScR} {f : SS → ScR} (h : RJ r) (g : JOk r.s → RJ (f r.s)) : RJ (r.then f) := by
 unfold ScR.then
 by_cases h0 : r.e = 0
 · have : (r.e == 0) = true := by simp [h0]
   rw [this]; exact g (h h0)
 · have : (r.e == 0) = false := by simp [h0]
   rw [this]; exact h
theorem langM_congr {s t : SS} (h1 : t.k = s.k) (h2 : t.el = s.el) (h3 : t.ar = s.ar) : langM t = langM s := by
 unfold langM kindM inB
 rw [h1, h2, h3]
theorem JOk.same {s t : SS} (h : JOk s) (h1 : t.k = s.k) (h2 : t.el = s.el) (h3 : t.ar = s.ar) (h4 : t.pt = s.pt) (h5 : t.wd = s.wd) : JOk t := by
 unfold JOk at *
 rw [langM_congr h1 h2 h3, h4, h5]
 exact h
theorem j_nil {s : SS} (h : s.wd = []) : JOk s := .inl h
def PJ (r : Int × Bs) : Prop := r.2 = [] ∨ r.1 = 0 ∨ r.1 = 1
theorem pj_bif {b : Bool} {x y : Int × Bs} (h1 : PJ x) (h2 : PJ y) : PJ (bif b then x else y) := by
 cases b
 · exact h2
 · exact h1
theorem jsCode_pj (p : Int) (w : Bs) (c : UInt8) : PJ (jsCode p w c) := by
 unfold jsCode
 repeat' with_reducible apply pj_bif
 all_goals first
  | exact .inl rfl
  | exact .inr (.inr rfl)
theorem jsSlashed_pj (p : Int) (c : UInt8) : PJ (jsSlashed p c) := by
 unfold jsSlashed
 repeat' with_reducible apply pj_bif
 all_goals first
  | exact .inl rfl
  | exact jsCode_pj _ _ _
theorem jsStep_pj (p : Int) (w : Bs) (c : UInt8) : PJ (jsStep p w c) := by
 unfold jsStep
 repeat' with_reducible apply pj_bif
 all_goals first
  | exact .inl rfl
  | exact jsCode_pj _ _ _
  | exact jsSlashed_pj _ _
theorem feed_pj : ∀ (x : Bs) (p : Int) (w : Bs), PJ (p, w) → PJ (feedP jsStep p w x)
 | [], p, w, h => h
 | c :: x, p, w, h => feed_pj x _ _ (jsStep_pj p w c)
theorem sub_j {s : SS} (h : JOk s) (x : Bs) : RJ (subS s x) := by
 intro _
 have hs := sub_same s x
 have hl : langM (subS s x).s = langM s := langM_congr hs.1 hs.2.1 hs.2.2.1
 by_cases h2 : langM s = 2
 · unfold JOk at h
   have hp : PJ (s.pt, s.wd) := by
    rcases h with a | a | a | a
    · exact .inl a
    · exact absurd h2 a
    · exact .inr (.inl a)
    · exact .inr (.inr a)
   have e : (subS s x).s = { s with pt := (feedP jsStep s.pt s.wd x).1, wd := (feedP jsStep s.pt s.wd x).2 } := by unfold subS; rw [h2]; rfl
   rcases feed_pj x _ _ hp with a | a | a
   · exact .inl (by rw [e]; exact a)
   · exact .inr (.inr (.inl (by rw [e]; exact a)))
   · exact .inr (.inr (.inr (by rw [e]; exact a)))
 · exact .inr (.inl (by rw [hl]; exact h2))
theorem flush_j {s : SS} (h : JOk s) : RJ (flushS s) := sub_j (h.same (t := { s with rf := [] }) rfl rfl rfl rfl rfl) _
theorem char0_j {s : SS} (h : JOk s) (c : UInt8) : RJ (charS0 s c) := j_bif (fun _ => jOk (h.same rfl rfl rfl rfl rfl)) (fun _ => sub_j h _)
theorem end_j (s : SS) : RJ (endS s) := by
 unfold endS
 exact j_bif (fun _ => jBad (by decide)) (fun _ => j_bif (fun _ => jOk (j_nil rfl)) (fun _ => jOk (j_nil rfl)))
theorem within_j (s : SS) (c : UInt8) : RJ (withinS s c) := by
 unfold withinS
 exact j_bif (fun _ => jOk (j_nil rfl)) (fun _ => j_bif (fun _ => jOk (j_nil rfl)) (fun _ => j_bif (fun _ => end_j s) (fun _ => jOk (j_nil rfl))))
theorem SInv.wd0 {s : SS} (h : SInv s) (hk : s.k < 9 ∨ (10 < s.k ∧ s.k < 18)) : s.pt = 0 ∧ s.wd = [] := by
 rcases h.ptk with a | a
 · unfold subB inB at a
   simp only [Bool.or_eq_true, Bool.and_eq_true, decide_eq_true_eq] at a
   omega
 · exact a
theorem tagName_j {s : SS} (h : s.wd = []) (c : UInt8) : RJ (tagNameS s c) := by
 unfold tagNameS
 exact j_bif (fun _ => within_j s c) (fun _ => j_bif (fun _ => jOk (j_nil h)) (fun _ => jBad (by decide)))
theorem attr_j {s : SS} (h : s.wd = []) (c : UInt8) : RJ (attrS s c) := by
 unfold attrS
 exact j_bif (fun _ => jOk (j_nil h)) (fun _ => j_bif (fun _ => jOk (j_nil h)) (fun _ => j_bif (fun _ => within_j s c) (fun _ => j_bif (fun _ => jOk (j_nil h)) (fun _ => jBad (by decide)))))
section
variable {O : Bs → Bs × Nat} {U : Bs → Bool}
theorem char_j {s : SS} (h : JOk s) (c : UInt8) : RJ (charS O U s c) := by
 unfold charS
 exact j_bif (fun _ => j_bif (fun _ => sub_j (h.same (t := { s with rf := [] }) rfl rfl rfl rfl rfl) _) (fun _ => j_bif (fun _ => jOk (h.same rfl rfl rfl rfl rfl)) (fun _ => (flush_j h).then fun h' => char0_j h' c))) (fun _ => char0_j h c)
theorem want_j {s : SS} (h : s.wd = []) (c : UInt8) : RJ (wantS O U s c) := by
 unfold wantS
 exact j_bif (fun _ => jOk (j_nil h)) (fun _ => j_bif (fun _ => jOk (j_nil h)) (fun _ => j_bif (fun _ => end_j s) (fun _ => char_j (s := { s with k := 10 }) (j_nil h) c)))
theorem inValue_j {s : SS} (h : JOk s) (c : UInt8) : RJ (inValueS O U s c) := by
 unfold inValueS
 exact j_bif (fun _ => (flush_j h).then fun _ => jOk (j_nil rfl)) (fun _ => j_bif (fun _ => (flush_j h).then fun _ => within_j _ c) (fun _ => char_j h c))
theorem data_j {s : SS} (h : JOk s) (c : UInt8) : RJ (dataS O U s c) := by
 unfold dataS
 exact j_bif (fun _ => jOk (j_nil rfl)) (fun _ => char_j h c)
theorem plain_j {s : SS} (h : JOk s) (c : UInt8) : RJ (plainS O U s c) := by
 unfold plainS
 exact j_bif (fun _ => j_bif (fun _ => (flush_j h).then fun h' => jOk (h'.same rfl rfl rfl rfl rfl)) (fun _ => jOk (h.same rfl rfl rfl rfl rfl))) (fun _ => j_bif (fun _ => char_j h c) (fun _ => sub_j h _))
theorem raw_j {s : SS} (h : JOk s) (c : UInt8) : RJ (rawS O U s c) := by
 unfold rawS
 exact j_bif (fun _ => plain_j h c) (fun _ => j_bif (fun _ => j_bif (fun _ => jOk (h.same rfl rfl rfl rfl rfl)) (fun _ => jBad (by decide))) (fun _ => j_bif (fun _ => tagName_j rfl c) (fun _ => (sub_j (h.same (t := { s with pe := [] }) rfl rfl rfl rfl rfl) _).then fun h' => plain_j h' c)))
theorem remark_j {s : SS} (h : s.wd = []) (c : UInt8) : RJ (remarkS s c) := by
 unfold remarkS bogusS
 refine j_bif (fun _ => jOk (j_nil h)) (fun _ => j_bif (fun _ => jOk (j_nil h)) (fun _ => j_bif (fun _ => j_bif (fun _ => jOk (j_nil rfl)) (fun _ => jOk (j_nil h))) (fun _ => j_bif (fun _ => jOk (j_nil h)) (fun _ => j_bif (fun _ => jOk (j_nil rfl)) (fun _ => j_bif (fun _ => jOk (j_nil h)) (fun _ => jOk (j_nil h)))))))
theorem step_j {s : SS} (h : SInv s) (hj : JOk s) (c : UInt8) : RJ (stepS O U s c) := by
 unfold stepS
 refine j_bif (fun a => data_j hj c) (fun a0 => j_bif (fun a => ?_) (fun a1 => j_bif (fun a => ?_) (fun a2 => j_bif (fun a => tagName_j (h.wd0 ?_).2 c) (fun a3 => j_bif (fun a => within_j s c) (fun a4 => j_bif (fun a => attr_j (h.wd0 ?_).2 c) (fun a5 => j_bif (fun a => want_j (h.wd0 ?_).2 c) (fun a6 => j_bif (fun a => inValue_j hj c) (fun a7 => j_bif (fun a => within_j s c) (fun a8 => j_bif (fun a => remark_j (h.wd0 ?_).2 c) (fun a9 => j_bif (fun a => ?_) (fun a10 => raw_j hj c)))))))))))
 · unfold beginS
   exact j_bif (fun _ => jOk (j_nil rfl)) (fun _ => j_bif (fun _ => jOk (j_nil rfl)) (fun _ => j_bif (fun _ => jOk (j_nil rfl)) (fun _ => j_bif (fun _ => jOk (j_nil rfl)) (fun _ => data_j (j_nil rfl) c))))
 · unfold beginEndS
   exact j_bif (fun _ => jOk (j_nil rfl)) (fun _ => j_bif (fun _ => jOk (j_nil rfl)) (fun _ => jOk (j_nil rfl)))
 · simp only [Bool.or_eq_true, beq_iff_eq] at a; omega
 · simp only [Bool.or_eq_true, beq_iff_eq] at a; omega
 · simp only [beq_iff_eq] at a; omega
 · simp only [Bool.or_eq_true, beq_iff_eq] at a; omega
 · unfold bogusS
   exact j_bif (fun _ => jOk (j_nil rfl)) (fun _ => jOk hj)
theorem scanStep_j {s : SS} (h : SInv s) (hj : JOk s) (c : UInt8) : JOk (scanStep O U s c).1 := by
 unfold scanStep
 rw [h.mark]
 have := step_j (O := O) (U := U) h hj c
 revert this
 generalize stepS O U s c = r
 intro hr
 simp only [bne_self_eq_false, cond_false]
 cases he : r.e == 0 with
 | false => exact j_nil rfl
 | true => exact hr (by simpa using he)
theorem feedL_j (hU : ∀ t, U t = true → t.length ≤ 16) : ∀ (t : Bs) {s : SS}, SInv s → JOk s → JOk (feedL O U s t).1
 | [], s, h, hj => hj
 | c :: t, s, h, hj => by
  unfold feedL
  cases (scanStep O U s c).2 != 0 with
  | true => exact j_nil rfl
  | false => exact feedL_j hU t (scanStep_inv hU h c) (scanStep_j h hj c)
structure JS (s : SS) : Prop where
 inv : SInv s
 lang : langM s = 2
 kind : s.k = 19 ∨ s.k = 9
 pe : s.pe = []
 rf : s.rf = []
def pwS (s : SS) (r : Int × Bs) : SS := { s with pt := r.1, wd := r.2 }
def strC (c : UInt8) : Bool := c != 34 && c != 39 && c != 92 && c != 10 && c != 13 && c != 60 && c != 38
inductive Ins : Bs → Prop
 | nil : Ins []
 | cons {c : UInt8} {x : Bs} (h : strC c = true) (hx : Ins x) : Ins (c :: x)
 | esc {x : Bs} (hx : Ins x) : Ins (92 :: 117 :: x)
theorem Ins.append {x y : Bs} (hx : Ins x) (hy : Ins y) : Ins (x ++ y) := by
 induction hx with
 | nil => exact hy
 | cons h _ ih => exact .cons h ih
 | esc _ ih => exact .esc ih
theorem pwS_pwS (s : SS) (a b : Int × Bs) : pwS (pwS s a) b = pwS s b := rfl
theorem feedL_step {s : SS} {c : UInt8} {x : Bs} {s' : SS} (h : scanStep O U s c = (s', 0)) : feedL O U s (c :: x) = ((feedL O U s' x).1, (feedL O U s' x).2.1 + 1, (feedL O U s' x).2.2) := by
 show (bif (scanStep O U s c).2 != 0 then _ else _) = _
 rw [h]; rfl
theorem feedL_then {s t : SS} {a b : Bs} {n : Nat} (h : feedL O U s a = (t, n, 0)) : feedL O U s (a ++ b) = ((feedL O U t b).1, n + (feedL O U t b).2.1, (feedL O U t b).2.2) := by
 rw [feedL_app, h]; rfl
theorem blank_js (p : Int) (w : Bs) (h : p = 0 ∨ p = 1) : ∃ q, (q = 0 ∨ q = 1) ∧ jsStep p w 32 = (q, []) := by
 refine ⟨jsEnded p w, ?_, ?_⟩
 · unfold jsEnded
   cases (w != [] && jsWords.contains w)
   · exact h
   · exact .inl rfl
 · rcases h with rfl | rfl <;> rfl
end
theorem jsHole_c (p : Int) : (jsHole p = (1, 1) ∧ (p = 0 ∨ p = 1)) ∨ (jsHole p = (p, 2) ∧ (p = 2 ∨ p = 3)) ∨ jsHole p = (p, 0) := by
 unfold jsHole
 cases h1 : (p == 0 || p == 1) with
 | true => exact .inl ⟨rfl, by simpa using h1⟩
 | false =>
  cases h2 : (p == 2 || p == 3) with
  | true => exact .inr (.inl ⟨rfl, by simpa using h2⟩)
  | false => exact .inr (.inr rfl)
end Go.Mu
namespace Go.Mu
open Go
structure TS (s : SS) : Prop where
 inv : SInv s
 lang : langM s = 0
 kind : s.k = 0 ∨ s.k = 17 ∨ s.k = 9
 pe : s.pe = []
 rf : s.rf = []
def calm (c : UInt8) : Prop := c ≠ 60 ∧ c ≠ 34 ∧ c ≠ 39
section
variable {O : Bs → Bs × Nat} {U : Bs → Bool}
theorem ts_sub {s : SS} (h : langM s = 0) (x : Bs) : subS s x = sOk s := by unfold subS; rw [h]; rfl
def RefP (O : Bs → Bs × Nat) (U : Bs → Bool) : Bs → Bs → Prop
 | _, [] => False
 | acc, [c] => calm c ∧ (O (acc ++ [c])).2 = (acc ++ [c]).length
 | acc, c :: d :: r => calm c ∧ (O (acc ++ [c])).2 ≠ (acc ++ [c]).length ∧ U (acc ++ [c]) = true ∧ RefP O U (acc ++ [c]) (d :: r)
inductive EscT (O : Bs → Bs × Nat) (U : Bs → Bool) : Bs → Prop
 | nil : EscT O U []
 | cons {c : UInt8} {x : Bs} (h : calm c) (h38 : c ≠ 38) (hx : EscT O U x) : EscT O U (c :: x)
 | ref {r x : Bs} (hl : r.length ≤ 15) (hp : RefP O U [38] r) (hx : EscT O U x) : EscT O U ((38 :: r) ++ x)
end
end Go.Mu
namespace Go.Mu
open Go
structure VS (s : SS) : Prop where
 inv : SInv s
 pe : s.pe = []
 rf : s.rf = []
abbrev kVal (s : SS) : Prop := s.k = 0 ∨ s.k = 17 ∨ s.k = 9
abbrev kRaw (s : SS) : Prop := s.k = 18 ∨ s.k = 19
def runS (s : SS) : Bs → SS
 | [] => s
 | c :: y => runS (subS s [c]).s y
def GoodS (s : SS) : Bs → Prop
 | [] => True
 | c :: y => (subS s [c]).e = 0 ∧ GoodS (subS s [c]).s y
theorem vs_sub {s : SS} (h : VS s) {c : UInt8} (he : (subS s [c]).e = 0) : VS (subS s [c]).s := by
 obtain ⟨_, _, _, h4, h5, _⟩ := sub_same s [c]
 exact ⟨sub_inv h.inv _ he, h5.trans h.pe, h4.trans h.rf⟩
section
variable {O : Bs → Bs × Nat} {U : Bs → Bool}
theorem vs_step {s : SS} (h : VS s) (hk : kVal s) (r : Bs) {c : UInt8} (hc : calm c) : stepS O U { s with rf := r } c = charS O U { s with rf := r } c := by
 have e60 : (c == 60) = false := by simpa using hc.1
 rcases hk with hk | hk | hk
 · unfold stepS dataS
   simp only [hk, e60]
   rfl
 · unfold stepS rawS plainS
   simp only [hk, h.pe, e60]
   rfl
 · have hd : (c == s.dl) = false := by
    have h1 := h.inv.dlv
    have h2 := h.inv.dlk.1 hk
    simp only [beq_eq_false_iff_ne]
    rcases h1 with a | a | a
    · exact absurd a h2
    · rw [a]; exact hc.2.1
    · rw [a]; exact hc.2.2
   unfold stepS inValueS
   simp only [hk, hd]
   rfl
theorem vs_rf {s : SS} (h : VS s) (hk : kVal s) {r : Bs} (hr : r.length ≤ 16) : SInv { s with rf := r } := h.inv.ref hr (.inr (by
 rcases hk with a | a | a
 · exact .inl a
 · exact .inr (.inl a)
 · exact .inr (.inr ⟨by omega, by omega⟩)))
theorem vs_scan {s : SS} (h : VS s) (hk : kVal s) {r : Bs} (hr : r.length ≤ 16) {c : UInt8} (hc : calm c) {x : ScR} (hx : charS O U { s with rf := r } c = x) (he : x.e = 0) : scanStep O U { s with rf := r } c = (x.s, 0) := by
 unfold scanStep
 rw [(vs_rf h hk hr).mark, vs_step h hk r hc, hx, he]
 rfl
theorem vs_self {s : SS} (h : VS s) : { s with rf := [] } = s := by rw [← h.rf]
theorem vs_plain {s : SS} (h : VS s) (hk : kVal s) {c : UInt8} (hc : calm c) (h38 : c ≠ 38) (he : (subS s [c]).e = 0) : scanStep O U s c = ((subS s [c]).s, 0) := by
 have e38 : (c == 38) = false := by simpa using h38
 have := vs_scan (O := O) (U := U) h hk (r := []) (by simp) hc (x := subS s [c]) (by
  rw [vs_self h]
  unfold charS charS0
  rw [h.rf, e38]
  rfl) he
 rw [vs_self h] at this
 exact this
theorem raw_step {s : SS} (h : VS s) (hk : kRaw s) {c : UInt8} (hc : c ≠ 60) (he : (subS s [c]).e = 0) : scanStep O U s c = ((subS s [c]).s, 0) := by
 have e60 : (c == 60) = false := by simpa using hc
 have e : stepS O U s c = subS s [c] := by
  rcases hk with hk | hk
  · unfold stepS rawS plainS
    simp only [hk, h.pe, e60]
    rfl
  · unfold stepS rawS plainS
    simp only [hk, h.pe, e60]
    rfl
 unfold scanStep
 rw [h.inv.mark, e, he]
 rfl
def RefQ (O : Bs → Bs × Nat) (U : Bs → Bool) (d : UInt8) : Bs → Bs → Prop
 | _, [] => False
 | acc, [c] => calm c ∧ O (acc ++ [c]) = ([d], (acc ++ [c]).length)
 | acc, c :: e :: r => calm c ∧ (O (acc ++ [c])).2 ≠ (acc ++ [c]).length ∧ U (acc ++ [c]) = true ∧ RefQ O U d (acc ++ [c]) (e :: r)
theorem refq_feed {s : SS} (h : VS s) (hk : kVal s) {d : UInt8} (he : (subS s [d]).e = 0) : ∀ (r acc : Bs), acc ≠ [] → acc.length + r.length ≤ 16 → RefQ O U d acc r → feedL O U { s with rf := acc } r = ((subS s [d]).s, r.length, 0)
 | [], acc, _, _, hp => hp.elim
 | [c], acc, h0, hl, hp => by
  obtain ⟨hc, ho⟩ := hp
  have a1 : (acc != []) = true := by simpa using h0
  have st := vs_scan (O := O) (U := U) h hk (r := acc) (by simp at hl; omega) hc (x := subS s [d]) (by
   unfold charS
   simp only [a1, ho, beq_self_eq_true, cond_true, vs_self h]) he
  rw [feedL_step st]
  rfl
 | c :: e :: r, acc, h0, hl, hp => by
  obtain ⟨hc, ho, hu, hp⟩ := hp
  have a1 : (acc != []) = true := by simpa using h0
  have a2 : ((O (acc ++ [c])).2 == (acc ++ [c]).length) = false := by simpa using ho
  simp only [List.length_cons] at hl
  have st := vs_scan (O := O) (U := U) h hk (r := acc) (by omega) hc (x := sOk { s with rf := acc ++ [c] }) (by
   unfold charS
   simp only [a1, a2, hu]
   rfl) rfl
  rw [feedL_step st]
  have := refq_feed h hk he (e :: r) (acc ++ [c]) (by simp) (by simp only [List.length_append, List.length_cons, List.length_nil]; omega) hp
  show ((feedL O U { s with rf := acc ++ [c] } (e :: r)).1, (feedL O U { s with rf := acc ++ [c] } (e :: r)).2.1 + 1, (feedL O U { s with rf := acc ++ [c] } (e :: r)).2.2) = _
  rw [this]; rfl
theorem refq_whole {s : SS} (h : VS s) (hk : kVal s) {d : UInt8} (he : (subS s [d]).e = 0) {r : Bs} (hl : r.length ≤ 15) (hp : RefQ O U d [38] r) : feedL O U s (38 :: r) = ((subS s [d]).s, (38 :: r).length, 0) := by
 have st := vs_scan (O := O) (U := U) h hk (r := []) (by simp) (c := 38) ⟨by decide, by decide, by decide⟩ (x := sOk { s with rf := [38] }) (by
  rw [vs_self h]
  unfold charS charS0
  rw [h.rf]
  rfl) rfl
 rw [vs_self h] at st
 rw [feedL_step st]
 have := refq_feed h hk he r [38] (by simp) (by simp only [List.length_singleton]; omega) hp
 show ((feedL O U { s with rf := [38] } r).1, (feedL O U { s with rf := [38] } r).2.1 + 1, (feedL O U { s with rf := [38] } r).2.2) = _
 rw [this]; rfl
inductive CodeT (O : Bs → Bs × Nat) (U : Bs → Bool) : Bs → Bs → Prop
 | nil : CodeT O U [] []
 | cons {c : UInt8} {x y : Bs} (h : calm c) (h38 : c ≠ 38) (hx : CodeT O U x y) : CodeT O U (c :: x) (c :: y)
 | ref {d : UInt8} {r x y : Bs} (hl : r.length ≤ 15) (hp : RefQ O U d [38] r) (hx : CodeT O U x y) : CodeT O U ((38 :: r) ++ x) (d :: y)
theorem code_feed {x y : Bs} (hx : CodeT O U x y) : ∀ s : SS, VS s → kVal s → GoodS s y → feedL O U s x = (runS s y, x.length, 0) := by
 induction hx with
 | nil => intro s _ _ _; rfl
 | @cons c x y hc h38 _ ih =>
  intro s h hk hg
  have hk2 : kVal (subS s [c]).s := by unfold kVal; rw [(sub_same s [c]).1]; exact hk
  rw [feedL_step (vs_plain h hk hc h38 hg.1), ih _ (vs_sub h hg.1) hk2 hg.2]; rfl
 | @ref d r x y hl hp _ ih =>
  intro s h hk hg
  have hk2 : kVal (subS s [d]).s := by unfold kVal; rw [(sub_same s [d]).1]; exact hk
  rw [feedL_then (refq_whole h hk hg.1 hl hp), ih _ (vs_sub h hg.1) hk2 hg.2, List.length_append]; rfl
theorem raw_feed : ∀ (x : Bs) (s : SS), VS s → kRaw s → (∀ c ∈ x, c ≠ 60) → GoodS s x → feedL O U s x = (runS s x, x.length, 0)
 | [], s, _, _, _, _ => rfl
 | c :: x, s, h, hk, hx, hg => by
  have hk2 : kRaw (subS s [c]).s := by unfold kRaw; rw [(sub_same s [c]).1]; exact hk
  rw [feedL_step (raw_step h hk (hx c (by simp)) hg.1), raw_feed x _ (vs_sub h hg.1) hk2 (fun d hd => hx d (by simp [hd])) hg.2]; rfl
end
theorem run0 {s : SS} (h : langM s = 0) : ∀ y : Bs, GoodS s y ∧ runS s y = s
 | [] => ⟨trivial, rfl⟩
 | c :: y => by
  have e := ts_sub h [c]
  unfold GoodS runS
  rw [e]
  exact ⟨⟨rfl, (run0 h y).1⟩, (run0 h y).2⟩
theorem lang_pw (s : SS) (r : Int × Bs) : langM (pwS s r) = langM s := langM_congr rfl rfl rfl
theorem sub_url {s : SS} (h : langM s = 1) (c : UInt8) : subS s [c] = ⟨bif s.pt != 4 || (urlStep s.pt s.wd c).1 != 5 then 0 else 93, pwS s (urlStep s.pt s.wd c)⟩ := by unfold subS; rw [h]; rfl
theorem sub_js {s : SS} (h : langM s = 2) (c : UInt8) : subS s [c] = ⟨bif (jsStep s.pt s.wd c).1 != 15 then 0 else 94, pwS s (jsStep s.pt s.wd c)⟩ := by unfold subS; rw [h]; rfl
theorem sub_css {s : SS} (h : langM s = 3) (c : UInt8) : subS s [c] = ⟨bif (csStep s.pt s.wd c).1 != 9 then 0 else 95, pwS s (csStep s.pt s.wd c)⟩ := by unfold subS; rw [h]; rfl
def n4 (r : Int × Bs) : Prop := r.1 ≠ 4
theorem n4_bif {b : Bool} {x y : Int × Bs} (h1 : b = true → n4 x) (h2 : b = false → n4 y) : n4 (bif b then x else y) := by
 cases b
 · exact h2 rfl
 · exact h1 rfl
theorem urlFirst_4 (w : Bs) (c : UInt8) : n4 (urlFirst w c) := by
 unfold urlFirst
 repeat' (first | with_reducible apply n4_bif <;> intro)
 all_goals (unfold n4; simp)
theorem urlStep_4 {p : Int} (w : Bs) (c : UInt8) (h : p ≠ 4) : n4 (urlStep p w c) := by
 unfold urlStep
 repeat' (first | with_reducible apply n4_bif <;> intro)
 all_goals first
  | exact urlFirst_4 _ _
  | exact h
  | (unfold n4; simp)
theorem run1 : ∀ (y : Bs) {s : SS}, langM s = 1 → s.pt ≠ 4 → GoodS s y ∧ runS s y = pwS s (feedP urlStep s.pt s.wd y)
 | [], s, _, _ => ⟨trivial, rfl⟩
 | c :: y, s, h, h4 => by
  have e := sub_url h c
  have h5 : (s.pt != 4) = true := by simpa using h4
  rw [h5, Bool.true_or, cond_true] at e
  have ih := run1 y (s := pwS s (urlStep s.pt s.wd c)) ((lang_pw _ _).trans h) (urlStep_4 _ _ h4)
  unfold GoodS runS
  rw [e]
  exact ⟨⟨rfl, ih.1⟩, ih.2.trans (pwS_pwS _ _ _)⟩
def jrun : Int → Bs → Bs → Option (Int × Bs)
 | p, w, [] => some (p, w)
 | p, w, c :: y => bif (jsStep p w c).1 != 15 then jrun (jsStep p w c).1 (jsStep p w c).2 y else none
theorem jrun_app : ∀ (a b : Bs) (p : Int) (w : Bs), jrun p w (a ++ b) = (jrun p w a).bind (fun r => jrun r.1 r.2 b)
 | [], b, p, w => rfl
 | c :: a, b, p, w => by
  show (bif (jsStep p w c).1 != 15 then jrun _ _ (a ++ b) else none) = Option.bind (bif (jsStep p w c).1 != 15 then jrun _ _ a else none) _
  cases (jsStep p w c).1 != 15
  · rfl
  · exact jrun_app a b _ _
theorem jrun_then {a b : Bs} {p p' : Int} {w w' : Bs} (h : jrun p w a = some (p', w')) : jrun p w (a ++ b) = jrun p' w' b := by rw [jrun_app, h]; rfl
theorem run2 : ∀ (y : Bs) {s : SS} {r : Int × Bs}, langM s = 2 → jrun s.pt s.wd y = some r → GoodS s y ∧ runS s y = pwS s r
 | [], s, r, _, hr => by
  have : r = (s.pt, s.wd) := (Option.some.inj hr).symm
  subst this
  exact ⟨trivial, rfl⟩
 | c :: y, s, r, h, hr => by
  have e := sub_js h c
  have hr : (bif (jsStep s.pt s.wd c).1 != 15 then jrun (jsStep s.pt s.wd c).1 (jsStep s.pt s.wd c).2 y else none) = some r := hr
  cases h15 : ((jsStep s.pt s.wd c).1 != 15) with
  | false => rw [h15] at hr; cases hr
  | true =>
   rw [h15, cond_true] at hr
   rw [h15, cond_true] at e
   have ih := run2 y (s := pwS s (jsStep s.pt s.wd c)) ((lang_pw _ _).trans h) hr
   unfold GoodS runS
   rw [e]
   exact ⟨⟨rfl, ih.1⟩, ih.2.trans (pwS_pwS _ _ _)⟩
def cssQ (c : UInt8) : Bool := c != 34 && c != 39 && c != 40 && c != 47 && c != 92
theorem csCode_0 {w : Bs} {c : UInt8} (h : cssQ c = true) : (csCode w c).1 = 0 := by
 unfold cssQ at h
 simp only [Bool.and_eq_true, bne_iff_ne] at h
 obtain ⟨⟨⟨⟨h1, h2⟩, h3⟩, h4⟩, h5⟩ := h
 have e1 : (c == 34) = false := by simpa using h1
 have e2 : (c == 39) = false := by simpa using h2
 have e3 : (c == 40) = false := by simpa using h3
 have e4 : (c == 47) = false := by simpa using h4
 have e5 : (c == 92) = false := by simpa using h5
 unfold csCode
 rw [e1, e2, e3, e4, e5]
 simp only [Bool.false_and, Bool.or_self, cond_false]
 cases csWordy c && w == [63]
 · cases csWordy c && decide (w.length < 16)
   · cases csWordy c <;> rfl
   · rfl
 · rfl
theorem run3 : ∀ (y : Bs) {s : SS}, langM s = 3 → s.pt = 0 → (∀ c ∈ y, cssQ c = true) → GoodS s y ∧ ∃ w, runS s y = pwS s (0, w)
 | [], s, _, h0, _ => ⟨trivial, s.wd, by rw [← h0]; rfl⟩
 | c :: y, s, h, h0, hy => by
  have e := sub_css h c
  have e1 : csStep s.pt s.wd c = csCode s.wd c := by rw [h0]; rfl
  have e2 := csCode_0 (w := s.wd) (hy c (by simp))
  rw [e1, e2] at e
  obtain ⟨i1, w, i2⟩ := run3 y (s := pwS s (csCode s.wd c)) ((lang_pw _ _).trans h) e2 (fun d hd => hy d (by simp [hd]))
  unfold GoodS runS
  rw [e]
  exact ⟨⟨rfl, i1⟩, w, i2.trans (pwS_pwS _ _ _)⟩
end Go.Mu
namespace Go.Mu
open Go Go.Proofs
structure Refs6 (O : Bs → Bs × Nat) (U : Bs → Bool) : Prop where
 r38 : RefQ O U 38 [38] [97,109,112,59]
 r60 : RefQ O U 60 [38] [108,116,59]
 r62 : RefQ O U 62 [38] [103,116,59]
 r34 : RefQ O U 34 [38] [35,51,52,59]
 r39 : RefQ O U 39 [38] [35,51,57,59]
 r43 : RefQ O U 43 [38] [35,52,51,59]
theorem code_escC {O : Bs → Bs × Nat} {U : Bs → Bool} (h : Refs6 O U) (c : UInt8) {x y : Bs} (hx : CodeT O U x y) : CodeT O U (escC c ++ x) (c :: y) := by
 unfold escC
 by_cases h38 : c = 38
 · subst h38; exact .ref (r := [97,109,112,59]) (by decide) h.r38 hx
 by_cases h60 : c = 60
 · subst h60; exact .ref (r := [108,116,59]) (by decide) h.r60 hx
 by_cases h62 : c = 62
 · subst h62; exact .ref (r := [103,116,59]) (by decide) h.r62 hx
 by_cases h34 : c = 34
 · subst h34; exact .ref (r := [35,51,52,59]) (by decide) h.r34 hx
 by_cases h39 : c = 39
 · subst h39; exact .ref (r := [35,51,57,59]) (by decide) h.r39 hx
 by_cases h43 : c = 43
 · subst h43; exact .ref (r := [35,52,51,59]) (by decide) h.r43 hx
 rw [beq_false_of_ne h38, beq_false_of_ne h60, beq_false_of_ne h62, beq_false_of_ne h34, beq_false_of_ne h39, beq_false_of_ne h43]
 exact .cons ⟨h60, h34, h39⟩ h38 hx
theorem code_escT {O : Bs → Bs × Nat} {U : Bs → Bool} (h : Refs6 O U) : ∀ t : Bs, CodeT O U (escT t) t
 | [] => .nil
 | c :: t => by
  have e : escT (c :: t) = escC c ++ escT t := by unfold escT; rw [List.flatMap_cons]
  rw [e]
  exact code_escC h c (code_escT h t)
theorem code_escP {O : Bs → Bs × Nat} {U : Bs → Bool} (h : Refs6 O U) (s : Bs) : CodeT O U (escP s) (rpP s) := code_escT h (rpP s)
theorem js_digit {p : Int} {c : UInt8} (w : Bs) (hp : p = 0 ∨ p = 1) (hc : digitB c = true) : jsStep p w c = (1, bif decide (w.length < 16) then w ++ [c] else w) := by
 have hw : jsWordy c = true := by unfold jsWordy; rw [hc]; simp
 have e : jsStep p w c = jsCode p w c := by rcases hp with rfl | rfl <;> rfl
 rw [e]
 unfold jsCode
 rw [hw]
 rfl
theorem ended_digits {w : Bs} (h : ∀ c ∈ w, digitB c = true) : jsEnded 1 w = 1 := by
 unfold jsEnded
 cases hc : (w != [] && jsWords.contains w) with
 | false => rfl
 | true =>
  exfalso
  rw [Bool.and_eq_true] at hc
  have hm : w ∈ jsWords := by simpa using hc.2
  unfold jsWords at hm
  simp only [List.mem_cons, List.not_mem_nil, or_false] at hm
  rcases hm with rfl | rfl | rfl | rfl | rfl | rfl | rfl | rfl | rfl | rfl | rfl | rfl <;> exact absurd (h _ (List.mem_cons_self ..)) (by decide)
theorem jrun_digits : ∀ (y w : Bs), (∀ c ∈ y, digitB c = true) → (∀ c ∈ w, digitB c = true) → ∃ w', jrun 1 w y = some (1, w') ∧ ∀ c ∈ w', digitB c = true
 | [], w, _, hw => ⟨w, rfl, hw⟩
 | c :: y, w, hy, hw => by
  have e := js_digit (p := 1) w (.inr rfl) (hy c (by simp))
  have hw2 : ∀ d ∈ (bif decide (w.length < 16) then w ++ [c] else w), digitB d = true := by
   cases decide (w.length < 16)
   · exact hw
   · intro d hd
     rcases List.mem_append.1 hd with hd | hd
     · exact hw d hd
     · rw [List.mem_singleton] at hd; subst hd; exact hy d (by simp)
  obtain ⟨w', h1, h2⟩ := jrun_digits y _ (fun d hd => hy d (by simp [hd])) hw2
  refine ⟨w', ?_, h2⟩
  show (bif (jsStep 1 w c).1 != 15 then jrun (jsStep 1 w c).1 (jsStep 1 w c).2 y else none) = _
  rw [e]
  exact h1
def JL (x : Bs) : Prop := ∀ p : Int, (p = 0 ∨ p = 1) → ∃ w', jrun p [] x = some (1, w') ∧ jsEnded 1 w' = 1
theorem jl_digits {x : Bs} (h0 : x ≠ []) (h : ∀ c ∈ x, digitB c = true) : JL x := fun p hp => by
 cases x with
 | nil => exact absurd rfl h0
 | cons c y =>
  have e := js_digit [] hp (h c (by simp))
  obtain ⟨w', h1, h2⟩ := jrun_digits y [c] (fun d hd => h d (by simp [hd])) (fun d hd => by rw [List.mem_singleton] at hd; subst hd; exact h d (by simp))
  refine ⟨w', ?_, ended_digits h2⟩
  show (bif (jsStep p [] c).1 != 15 then jrun (jsStep p [] c).1 (jsStep p [] c).2 y else none) = _
  rw [e]
  exact h1
theorem dig_ok : ∀ n : Fin 10, digitB (UInt8.ofNat (48 + n.val)) = true := by decide
theorem digsF_dig : ∀ (f u : Nat) (t : Bs), (∀ c ∈ t, digitB c = true) → ∀ c ∈ digsF f u t, digitB c = true
 | 0, u, t, h => h
 | f + 1, u, t, h => by
  have h2 : ∀ c ∈ UInt8.ofNat (48 + u % 10) :: t, digitB c = true := fun c hc => by
   rcases List.mem_cons.1 hc with rfl | hc
   · exact dig_ok ⟨u % 10, by omega⟩
   · exact h c hc
  rw [digsF]
  cases u / 10 == 0
  · exact digsF_dig f _ _ h2
  · exact h2
theorem digsF_ne : ∀ (f u : Nat) (t : Bs), t ≠ [] → digsF f u t ≠ []
 | 0, u, t, h => h
 | f + 1, u, t, h => by
  rw [digsF]
  cases u / 10 == 0
  · exact digsF_ne f _ _ (by simp)
  · simp
theorem digs_lit (u : Nat) : JL (digsF 19 u []) := by
 refine jl_digits ?_ (digsF_dig 19 u [] (by simp))
 rw [digsF]
 cases u / 10 == 0
 · exact digsF_ne 18 _ _ (by simp)
 · simp
theorem jl_num {n : Int} : JL (if n < 0 then 32 :: printM n else printM n) := by
 unfold printM
 by_cases h : n < 0
 · rw [if_pos h, dT h, cond_true]
   intro p hp
   obtain ⟨w', h1, h2⟩ := digs_lit n.natAbs 0 (.inl rfl)
   refine ⟨w', ?_, h2⟩
   rw [← h1]
   rcases hp with rfl | rfl <;> rfl
 · rw [if_neg h, dF h, cond_false]
   exact digs_lit _
theorem ins_jrun {p : Int} (h23 : p = 2 ∨ p = 3) {x : Bs} (hx : Ins x) : jrun p [] x = some (p, []) := by
 induction hx with
 | nil => rfl
 | @cons c x hc _ ih =>
  simp only [strC, Bool.and_eq_true, bne_iff_ne] at hc
  obtain ⟨⟨⟨⟨⟨⟨c1, c2⟩, c3⟩, c4⟩, c5⟩, c6⟩, c7⟩ := hc
  have e : jsStep p [] c = (p, []) := by
   have e1 : (c == 34) = false := by simpa using c1
   have e2 : (c == 39) = false := by simpa using c2
   have e3 : (c == 92) = false := by simpa using c3
   have e4 : (c == 10) = false := by simpa using c4
   have e5 : (c == 13) = false := by simpa using c5
   have eq : jsQuoted p c = p := by
    unfold jsQuoted nlB
    rw [e3, e4, e5]
    rcases h23 with rfl | rfl
    · show (bif c == 34 then _ else _) = _
      rw [e1]; rfl
    · show (bif c == 39 then _ else _) = _
      rw [e2]; rfl
   unfold jsStep
   rw [eq]
   rcases h23 with rfl | rfl <;> rfl
  show (bif (jsStep p [] c).1 != 15 then jrun (jsStep p [] c).1 (jsStep p [] c).2 x else none) = _
  rw [e]
  have : ((p : Int) != 15) = true := by rcases h23 with rfl | rfl <;> rfl
  simp only [this, cond_true]
  exact ih
 | @esc x _ ih =>
  rcases h23 with rfl | rfl
  · exact ih
  · exact ih
theorem hx_insAll : ∀ m : Fin 16, strC (hxC ((m.val : Nat) : Int)) = true := by decide +kernel
theorem hxC_ins (n d : Int) : strC (hxC (hxN n d)) = true := by
 have h1 := hxN_lt n d
 have h0 : 0 ≤ hxN n d := by
  unfold hxN
  have e : ∀ x : Int, IntKind.u64.wrap x = x % 18446744073709551616 := fun x => by simp [IntKind.wrap, IntKind.signed, IntKind.bits]
  rw [e]
  omega
 obtain ⟨m, hm⟩ : ∃ m : Fin 16, hxN n d = ((m.val : Nat) : Int) := ⟨⟨(hxN n d).toNat, by omega⟩, by simp; omega⟩
 rw [hm]
 exact hx_insAll m
theorem ins_list : ∀ {l : Bs}, (∀ c ∈ l, strC c = true) → Ins l
 | [], _ => .nil
 | c :: l, h => .cons (h c (by simp)) (ins_list (fun d hd => h d (by simp [hd])))
theorem hexX_ins (n size : Int) : Ins (hexX n size) := by
 refine ins_list ?_
 unfold hexX
 intro c hc
 cases hs : size == 2 <;> rw [hs] at hc <;> simp only [cond_true, cond_false, List.mem_cons, List.not_mem_nil, or_false] at hc
 · rcases hc with rfl | rfl | rfl | rfl <;> exact hxC_ins _ _
 · rcases hc with rfl | rfl <;> exact hxC_ins _ _
theorem pln_ins : ∀ m : Fin 128, plnM ((m.val : Nat) : Int) = true → strC (UInt8.ofNat (IntKind.u8.wrap ((m.val : Nat) : Int)).toNat) = true := by decide +kernel
theorem qB_ins {c : Int} (h : 0 < c) : Ins (qB c).flatten := by
 unfold qB
 cases hp : plnM c with
 | true =>
  have hlt : c < 128 := by
   unfold plnM at hp
   by_cases h2 : c < 128
   · exact h2
   · rw [dF h2] at hp; cases hp
  obtain ⟨m, hm⟩ : ∃ m : Fin 128, c = ((m.val : Nat) : Int) := ⟨⟨c.toNat, by omega⟩, by simp; omega⟩
  subst hm
  exact .cons (pln_ins m hp) .nil
 | false =>
  simp only [cond_false]
  cases decide (c > 65535)
  · simp only [cond_false, List.flatten_cons, List.flatten_nil, List.append_nil]
    exact (Ins.esc .nil).append (hexX_ins _ _)
  · simp only [cond_true, List.flatten_cons, List.flatten_nil, List.append_nil]
    exact (Ins.esc .nil).append ((hexX_ins _ _).append ((Ins.esc .nil).append (hexX_ins _ _)))
theorem qT_ins : ∀ l : List Int, (∀ c ∈ l, 0 < c) → Ins (qT l)
 | [], _ => .nil
 | c :: l, h => by
  have e : qT (c :: l) = (qB c).flatten ++ qT l := by unfold qT; rw [List.flatMap_cons]
  rw [e]
  exact (qB_ins (h c (by simp))).append (qT_ins l (fun d hd => h d (by simp [hd])))
theorem jsE_ins (s : Bs) : Ins (jsE s) := qT_ins _ (fun c hc => (chP_ok s c hc).1)
theorem quo_jrun (s : Bs) {p : Int} (hp : p = 0 ∨ p = 1) : jrun p [] (quoP s) = some (1, []) := by
 have e : quoP s = [34] ++ (qT (chP s) ++ [34]) := by unfold quoP; rw [List.append_assoc]
 have h1 : jrun p [] [34] = some (2, []) := by rcases hp with rfl | rfl <;> rfl
 rw [e, jrun_then h1, jrun_then (ins_jrun (.inl rfl) (show Ins (qT (chP s)) from jsE_ins s))]
 rfl
theorem jl_quo (s : Bs) : JL (quoP s) := fun p hp => ⟨[], quo_jrun s hp, rfl⟩
theorem js_comma {w : Bs} (h : jsEnded 1 w = 1) : jrun 1 w [44] = some (0, []) := rfl
theorem js_close {p : Int} (w : Bs) (hp : p = 0 ∨ p = 1) (c : UInt8) (hc : c = 93 ∨ c = 125) : jrun p w [c] = some (1, []) := by
 have key : ∀ q : Int, (bif (q : Int) == 0 then (bif false then ((13 : Int), ([] : Bs)) else (1, [])) else (1, [])) = (1, []) := fun q => by cases q == 0 <;> rfl
 rcases hp with rfl | rfl <;> rcases hc with rfl | rfl <;> rfl
theorem jl_join : ∀ (l : List Bs), (∀ x ∈ l, JL x) → ∃ p w, (p = 0 ∨ p = 1) ∧ jrun 0 [] (Lib.join l [44]) = some (p, w)
 | [], _ => ⟨0, [], .inl rfl, rfl⟩
 | [x], h => by
  obtain ⟨w, h1, _⟩ := h x (by simp) 0 (.inl rfl)
  rw [Lib.join_one]
  exact ⟨1, w, .inr rfl, h1⟩
 | x :: y :: l, h => by
  obtain ⟨w, h1, h2⟩ := h x (by simp) 0 (.inl rfl)
  obtain ⟨p, w2, h3, h4⟩ := jl_join (y :: l) (fun z hz => h z (by simp [hz]))
  have e : Lib.join (x :: y :: l) [44] = x ++ ([44] ++ Lib.join (y :: l) [44]) := by
   unfold Lib.join
   simp [List.intercalate, List.intersperse]
  refine ⟨p, w2, h3, ?_⟩
  rw [e, jrun_then h1, jrun_then (js_comma h2)]
  exact h4
theorem jl_list {a b : UInt8} (ha : a = 91 ∨ a = 123) (hb : b = 93 ∨ b = 125) {l : List Bs} (h : ∀ x ∈ l, JL x) : JL (a :: (Lib.join l [44] ++ [b])) := fun p hp => by
 obtain ⟨q, w, h1, h2⟩ := jl_join l h
 have e0 : jrun p [] [a] = some (0, []) := by rcases hp with rfl | rfl <;> rcases ha with rfl | rfl <;> rfl
 have e : (a :: (Lib.join l [44] ++ [b])) = [a] ++ (Lib.join l [44] ++ [b]) := rfl
 refine ⟨[], ?_, rfl⟩
 rw [e, jrun_then e0, jrun_then h2]
 exact js_close w h1 b hb
theorem jl_key (v : VaD) (i : Nat) {x : Bs} (h : JL x) : JL (lKey v i ++ x) := by
 unfold lKey
 split
 · intro p hp
   obtain ⟨w, h1, h2⟩ := h 0 (.inl rfl)
   refine ⟨w, ?_, h2⟩
   rw [List.append_assoc, jrun_then (quo_jrun _ hp)]
   rw [jrun_then (p' := 0) (w' := []) rfl]
   exact h1
 · exact h
theorem lit_jl : ∀ (d : Nat) (v : VaD), wfVal d v → JL (litV d v)
 | 0, v, h => h.elim
 | d + 1, v, h => by
  have hi : ∀ x ∈ lItems (litV d) v (vals v.list), JL x := fun x hx => by
   unfold lItems at hx
   obtain ⟨i, hi, rfl⟩ := List.mem_map.1 hx
   rw [List.mem_range] at hi
   refine jl_key v i (lit_jl d _ (h.2.2.2 _ ?_))
   rw [List.getD_eq_getElem?_getD, List.getElem?_eq_getElem hi]
   exact List.getElem_mem hi
  unfold litV
  repeat' split
  · intro p hp; rcases hp with rfl | rfl <;> exact ⟨_, rfl, by decide⟩
  · intro p hp; rcases hp with rfl | rfl <;> exact ⟨_, rfl, by decide⟩
  · intro p hp; rcases hp with rfl | rfl <;> exact ⟨_, rfl, by decide⟩
  · rename_i hn; have := jl_num (n := v.int); rw [if_pos hn] at this; exact this
  · rename_i hn; have := jl_num (n := v.int); rw [if_neg hn] at this; exact this
  · unfold litL
    split
    · exact jl_list (.inr rfl) (.inr rfl) hi
    · exact jl_list (.inl rfl) (.inl rfl) hi
  · exact jl_quo _
theorem blnk_jrun {p : Int} (w : Bs) (hp : p = 0 ∨ p = 1) {x : Bs} (h : JL x) : jrun p w (blnk x) = some (1, []) := by
 obtain ⟨q, hq, e0⟩ := blank_js p w hp
 obtain ⟨w', h1, h2⟩ := h q hq
 have e : blnk x = [32] ++ (x ++ [32]) := rfl
 have e1 : jrun p w [32] = some (q, []) := by
  show (bif (jsStep p w 32).1 != 15 then jrun (jsStep p w 32).1 (jsStep p w 32).2 [] else none) = _
  rw [e0]
  rcases hq with rfl | rfl <;> rfl
 have e2 : jrun 1 w' [32] = some (1, []) := by
  show (bif (jsStep 1 w' 32).1 != 15 then jrun (jsStep 1 w' 32).1 (jsStep 1 w' 32).2 [] else none) = _
  have : jsStep 1 w' 32 = (jsEnded 1 w', []) := rfl
  rw [this, h2]
  rfl
 rw [e, jrun_then e1, jrun_then h1, e2]
end Go.Mu
