/-
  Lemmas on the given program (part 4).
-/
import Derived.Test.YtfepcpcnfibbnaaDoorFS3
import Derived.Shelf.LaysM
import Derived.Shelf.Strings.Shaped
import Derived.Shelf.Strings.OnBuilder
import Derived.Shelf.Strings.Split
import Derived.Shelf.Strings.Cut
import Derived.Lib.RuneBytes
import Derived.Lib.TrimUEq
import Derived.Lib.MapLaws
import Derived.Test.YtfepcpcnfibbnaaDoorProg
import Derived.KernelRfl
set_option linter.unusedVariables false
set_option linter.unusedSimpArgs false
set_option maxRecDepth 100000
namespace Go.Mu
open Go Go.Proofs
abbrev b0P (ad b : AVal) (O : Obj) : Heap := [.var [ad, b], .note bdT 2, O, .note bT 0]
structure b0H where
  x : Bld
abbrev b0H.heap (x : b0H) : Heap := b0P x.x.ad x.x.b (.arr 1 x.x.rows x.x.v)
def b0H.dec (H : Heap) : b0H := ⟨bld H 0 2⟩
theorem b0_ws0 (O : Obj) (k : Out → Ans) : iFun Tryd.prog (layW0.hd Tryd.prog) layW0.fhs 0 92 [.ptr (.hp 0) 0, .str []] (b0P .nilptr .nilX O) k = (
  k
  (Out.ret (AVal.tuple [AVal.int IntKind.i64 0, AVal.nilIface])
      [Obj.var [AVal.ptr (Oid.hp 0) 0, AVal.nilX], Obj.note 98 2, O, Obj.note 5 0])) := by kernel_rfl
theorem b0_ws1 (O : Obj) (k : Out → Ans) : iFun Tryd.prog (layW0.hd Tryd.prog) layW0.fhs 0 92 [.ptr (.hp 0) 0, .str []] (b0P (.ptr (.hp 0) 0) .nilX O) k = (
  k
  (Out.ret (AVal.tuple [AVal.int IntKind.i64 0, AVal.nilIface])
      [Obj.var [AVal.ptr (Oid.hp 0) 0, AVal.nilX], Obj.note 98 2, O, Obj.note 5 0])) := by kernel_rfl
theorem b0_ws2 (l : List UInt8) (n v : Nat) (rows : List (List AVal)) (k : Out → Ans) : iFun Tryd.prog (Lay.nil.hd Tryd.prog) Lay.nil.fhs 0 92 [.ptr (.hp 0) 0, .str l] (b0P .nilptr (.own 2 0 n v false) (.arr 1 rows v)) k = (
 let m0 : Nat := n + (List.map (fun (c : UInt8) => [AVal.int IntKind.u8 (↑c.toNat : Int)]) l).length;
 let m1 : Nat := v + 1;
  bif v == v && n == rows.length && decide ((2 * m0 + 1000) * 1 ≤ 281474976710656) && true then
  k
  (Out.ret (AVal.tuple [AVal.int IntKind.i64 (↑l.length : Int), AVal.nilIface])
  [Obj.var [AVal.ptr (Oid.hp 0) 0, AVal.own 2 0 m0 m1 false], Obj.note 98 2,
  Obj.arr 1 (rows.append (List.map (fun (c : UInt8) => [AVal.int IntKind.u8 (↑c.toNat : Int)]) l)) m1,
  Obj.note 5 0])
  else none) := by kernel_rfl
theorem b0_ws3 (l : List UInt8) (n v : Nat) (rows : List (List AVal)) (k : Out → Ans) : iFun Tryd.prog (Lay.nil.hd Tryd.prog) Lay.nil.fhs 0 92 [.ptr (.hp 0) 0, .str l] (b0P (.ptr (.hp 0) 0) (.own 2 0 n v false) (.arr 1 rows v)) k = (
 let m0 : Nat := n + (List.map (fun (c : UInt8) => [AVal.int IntKind.u8 (↑c.toNat : Int)]) l).length;
 let m1 : Nat := v + 1;
  bif v == v && n == rows.length && decide ((2 * m0 + 1000) * 1 ≤ 281474976710656) && true then
  k
  (Out.ret (AVal.tuple [AVal.int IntKind.i64 (↑l.length : Int), AVal.nilIface])
  [Obj.var [AVal.ptr (Oid.hp 0) 0, AVal.own 2 0 m0 m1 false], Obj.note 98 2,
  Obj.arr 1 (rows.append (List.map (fun (c : UInt8) => [AVal.int IntKind.u8 (↑c.toNat : Int)]) l)) m1,
  Obj.note 5 0])
  else none) := by kernel_rfl
theorem b0_wb2 (c : UInt8) (n v : Nat) (rows : List (List AVal)) (k : Out → Ans) : iFun Tryd.prog (Lay.nil.hd Tryd.prog) Lay.nil.fhs 0 56 [.ptr (.hp 0) 0, .int .u8 c.toNat] (b0P .nilptr (.own 2 0 n v false) (.arr 1 rows v)) k = (
 let m0 : Nat := n + 1;
 let m1 : Nat := v + 1;
  bif v == v && n == rows.length && decide ((2 * m0 + 1000) * 1 ≤ 281474976710656) && true then
  k
  (Out.ret AVal.nilIface
  [Obj.var [AVal.ptr (Oid.hp 0) 0, AVal.own 2 0 m0 m1 false], Obj.note 98 2,
  Obj.arr 1 (rows.append [[AVal.int IntKind.u8 (↑c.toNat : Int)]]) m1, Obj.note 5 0])
  else none) := by kernel_rfl
theorem b0_wb3 (c : UInt8) (n v : Nat) (rows : List (List AVal)) (k : Out → Ans) : iFun Tryd.prog (Lay.nil.hd Tryd.prog) Lay.nil.fhs 0 56 [.ptr (.hp 0) 0, .int .u8 c.toNat] (b0P (.ptr (.hp 0) 0) (.own 2 0 n v false) (.arr 1 rows v)) k = (
 let m0 : Nat := n + 1;
 let m1 : Nat := v + 1;
  bif v == v && n == rows.length && decide ((2 * m0 + 1000) * 1 ≤ 281474976710656) && true then
  k
  (Out.ret AVal.nilIface
  [Obj.var [AVal.ptr (Oid.hp 0) 0, AVal.own 2 0 m0 m1 false], Obj.note 98 2,
  Obj.arr 1 (rows.append [[AVal.int IntKind.u8 (↑c.toNat : Int)]]) m1, Obj.note 5 0])
  else none) := by kernel_rfl
theorem b0_len0 (ad : AVal) (O : Obj) (k : Out → Ans) : iFun Tryd.prog (Lay.nil.hd Tryd.prog) Lay.nil.fhs 0 113 [.ptr (.hp 0) 0] (b0P ad .nilX O) k = (
  k (Out.ret (AVal.int IntKind.i64 0) (b0P ad AVal.nilX O))) := by kernel_rfl
theorem b0_len1 (ad : AVal) (n v : Nat) (O : Obj) (k : Out → Ans) : iFun Tryd.prog (Lay.nil.hd Tryd.prog) Lay.nil.fhs 0 113 [.ptr (.hp 0) 0] (b0P ad (.own 2 0 n v false) O) k = (
  k (Out.ret (AVal.int IntKind.i64 (↑n : Int)) (b0P ad (AVal.own 2 0 n v false) O))) := by kernel_rfl
theorem b0_ws (x : b0H) (l : List UInt8) (hx : x.x.can 0 2) (h : x.x.t.length + l.length ≤ 1099511627776) : CallOK Tryd.prog 92 [.ptr (.hp 0) 0, .str l] x.heap (.ret (.tuple [.int .i64 l.length, .nilIface]) ({ x with x := x.x.add 0 2 l } : b0H).heap) := by
  obtain ⟨⟨ad, b, rows, v⟩⟩ := x
  obtain ⟨h1, h2, h3⟩ := hx
  unfold Bld.add Bld.t
  simp only [Bld.t] at h h1 h2 h3 ⊢
  generalize bytesOf rows = text at *
  subst h2 h3
  cases text with
  | nil =>
    cases l with
    | nil =>
      refine layW0_ok.call (fun k => ?_)
      rcases h1 with rfl | rfl
      · exact b0_ws0 (.arr 1 [] v) k
      · exact b0_ws1 (.arr 1 [] v) k
    | cons c t =>
      refine relAt_ok (i := 0) (c := 1) (j := 2) ?_
      simp only [List.length_nil] at h
      refine Lay.nil_ok.call (fun k => ?_)
      have e3 : wsV [] (c :: t) v = v + 1 + 1 := rfl
      rw [e3]
      generalize hl : c :: t = l at *
      have e4 : bfB 2 ([] ++ l) (v + 1 + 1) = .own 2 0 l.length (v + 1 + 1) false := by rw [← hl]; rfl
      rw [e4]
      rcases h1 with rfl | rfl
      · rw [show relAt 0 1 2 (b0P .nilptr (bfB 2 [] v) (.arr 1 (([] : List UInt8).map byteRow) v)) = b0P .nilptr (.own 2 0 0 (v + 1) false) (.arr 1 [] (v + 1)) from rfl, b0_ws2]
        simp (disch := omega) only [e_map, List.length_map, dT, beq_self_eq_true, Bool.and_true, cond_true, List.append_eq, List.nil_append, Nat.zero_add, List.length_nil, Nat.mul_one, List.map_nil]
      · rw [show relAt 0 1 2 (b0P (.ptr (.hp 0) 0) (bfB 2 [] v) (.arr 1 (([] : List UInt8).map byteRow) v)) = b0P (.ptr (.hp 0) 0) (.own 2 0 0 (v + 1) false) (.arr 1 [] (v + 1)) from rfl, b0_ws3]
        simp (disch := omega) only [e_map, List.length_map, dT, beq_self_eq_true, Bool.and_true, cond_true, List.append_eq, List.nil_append, Nat.zero_add, List.length_nil, Nat.mul_one, List.map_nil]
  | cons c t =>
    refine Lay.nil_ok.call (fun k => ?_)
    have e3 : wsV (c :: t) l v = v + 1 := rfl
    have e4 : bfB 2 ((c :: t) ++ l) (v + 1) = .own 2 0 ((c :: t) ++ l).length (v + 1) false := rfl
    have e5 : bfB 2 (c :: t) v = .own 2 0 (c :: t).length v false := rfl
    rw [e3, e4, e5]
    generalize c :: t = m at *
    rcases h1 with rfl | rfl
    · rw [b0_ws2]
      simp (disch := omega) only [e_map, List.length_map, dT, beq_self_eq_true, Bool.and_true, cond_true, List.append_eq, List.length_append, Nat.mul_one]
    · rw [b0_ws3]
      simp (disch := omega) only [e_map, List.length_map, dT, beq_self_eq_true, Bool.and_true, cond_true, List.append_eq, List.length_append, Nat.mul_one]
theorem b0_wb (x : b0H) (c : UInt8) (hx : x.x.can 0 2) (h : x.x.t.length ≤ 1073741824) : CallOK Tryd.prog 56 [.ptr (.hp 0) 0, .int .u8 c.toNat] x.heap (.ret .nilIface ({ x with x := x.x.add 0 2 [c] } : b0H).heap) := by
  obtain ⟨⟨ad, b, rows, v⟩⟩ := x
  obtain ⟨h1, h2, h3⟩ := hx
  unfold Bld.add Bld.t
  simp only [Bld.t] at h h1 h2 h3 ⊢
  generalize bytesOf rows = text at *
  subst h2 h3
  have e6 : [c].map byteRow = [[.int .u8 c.toNat]] := rfl
  rw [e6]
  cases text with
  | nil =>
    refine relAt_ok (i := 0) (c := 1) (j := 2) ?_
    refine Lay.nil_ok.call (fun k => ?_)
    have e3 : wsV [] [c] v = v + 1 + 1 := rfl
    have e4 : bfB 2 ([] ++ [c]) (v + 1 + 1) = .own 2 0 1 (v + 1 + 1) false := rfl
    rw [e3, e4]
    rcases h1 with rfl | rfl
    · rw [show relAt 0 1 2 (b0P .nilptr (bfB 2 [] v) (.arr 1 (([] : List UInt8).map byteRow) v)) = b0P .nilptr (.own 2 0 0 (v + 1) false) (.arr 1 [] (v + 1)) from rfl, b0_wb2]
      simp only [beq_self_eq_true]
      rfl
    · rw [show relAt 0 1 2 (b0P (.ptr (.hp 0) 0) (bfB 2 [] v) (.arr 1 (([] : List UInt8).map byteRow) v)) = b0P (.ptr (.hp 0) 0) (.own 2 0 0 (v + 1) false) (.arr 1 [] (v + 1)) from rfl, b0_wb3]
      simp only [beq_self_eq_true]
      rfl
  | cons d t =>
    refine Lay.nil_ok.call (fun k => ?_)
    have e3 : wsV (d :: t) [c] v = v + 1 := rfl
    have e4 : bfB 2 ((d :: t) ++ [c]) (v + 1) = .own 2 0 ((d :: t) ++ [c]).length (v + 1) false := rfl
    have e5 : bfB 2 (d :: t) v = .own 2 0 (d :: t).length v false := rfl
    rw [e3, e4, e5]
    generalize d :: t = m at *
    rcases h1 with rfl | rfl
    · rw [b0_wb2]
      simp (disch := omega) only [e_map, List.length_map, dT, beq_self_eq_true, Bool.and_true, cond_true, List.append_eq, List.length_append, Nat.mul_one, List.length_cons, List.length_nil]
    · rw [b0_wb3]
      simp (disch := omega) only [e_map, List.length_map, dT, beq_self_eq_true, Bool.and_true, cond_true, List.append_eq, List.length_append, Nat.mul_one, List.length_cons, List.length_nil]
theorem b0_len (x : b0H) (hx : x.x.can 0 2) : CallOK Tryd.prog 113 [.ptr (.hp 0) 0] x.heap (.ret (.int .i64 x.x.t.length) x.heap) := by
  obtain ⟨⟨ad, b, rows, v⟩⟩ := x
  obtain ⟨h1, h2, h3⟩ := hx
  simp only [Bld.t] at h1 h2 h3 ⊢
  generalize bytesOf rows = text at *
  subst h2 h3
  refine Lay.nil_ok.call (fun k => ?_)
  cases text with
  | nil => exact b0_len0 ad _ k
  | cons c t => exact b0_len1 ad (c :: t).length v _ k
theorem b0_str (x : b0H) (hx : x.x.can 0 2) (h : x.x.t.length ≤ 1099511627776) : CallOK Tryd.prog 58 [.ptr (.hp 0) 0] x.heap (.ret (.str x.x.t) ({ x with x := x.x.dead } : b0H).heap) := by
  obtain ⟨⟨ad, b, rows, v⟩⟩ := x
  obtain ⟨h1, h2, h3⟩ := hx
  unfold Bld.dead Bld.t
  simp only [Bld.t] at h h1 h2 h3 ⊢
  generalize bytesOf rows = text at *
  subst h2 h3
  cases text with
  | nil => exact str_ok0 (cs := [ad, .nilX]) rfl rfl
  | cons c t => exact str_ok (i := 0) (off := 0) (j := 2) (u := v) (cs := [ad, .own 2 0 (c :: t).length v false]) (l := c :: t) rfl rfl rfl rfl (by simp) h
noncomputable def b0_wsTold : FSp := mkF (fun xs H => (b0H.dec H, aS xs 1)) (fun x => x.1.x.can 0 2 ∧ x.1.x.t.length + x.2.length ≤ 1099511627776) (fun x => [.ptr (.hp 0) 0, .str x.2]) (fun x => x.1.heap) (fun x k => k (.ret (.tuple [.int .i64 x.2.length, .nilIface]) ({ x.1 with x := x.1.x.add 0 2 x.2 } : b0H).heap))
noncomputable def b0_wbTold : FSp := mkF (fun xs H => (b0H.dec H, UInt8.ofNat (aI xs 1).toNat)) (fun x => x.1.x.can 0 2 ∧ x.1.x.t.length ≤ 1073741824) (fun x => [.ptr (.hp 0) 0, .int .u8 x.2.toNat]) (fun x => x.1.heap) (fun x k => k (.ret .nilIface ({ x.1 with x := x.1.x.add 0 2 [x.2] } : b0H).heap))
noncomputable def b0_lenTold : FSp := mkF (fun xs H => b0H.dec H) (fun x => x.x.can 0 2) (fun x => [.ptr (.hp 0) 0]) (fun x => x.heap) (fun x k => k (.ret (.int .i64 x.x.t.length) x.heap))
noncomputable def b0_strTold : FSp := mkF (fun xs H => b0H.dec H) (fun x => x.x.can 0 2 ∧ x.x.t.length ≤ 1099511627776) (fun x => [.ptr (.hp 0) 0]) (fun x => x.heap) (fun x k => k (.ret (.str x.x.t) ({ x with x := x.x.dead } : b0H).heap))
noncomputable def b0_lay (L : Lay) : Lay := (((L.addF 92 b0_wsTold).addF 56 b0_wbTold).addF 113 b0_lenTold).addF 58 b0_strTold
theorem b0_ok {L : Lay} (h : L.OK Tryd.prog) : (b0_lay L).OK Tryd.prog :=
  (((h.addF (mkF_ok fun x h => ⟨_, fun k => rfl, b0_ws x.1 x.2 h.1 h.2⟩)).addF (mkF_ok fun x h => ⟨_, fun k => rfl, b0_wb x.1 x.2 h.1 h.2⟩)).addF (mkF_ok fun x h => ⟨_, fun k => rfl, b0_len x h⟩)).addF (mkF_ok fun x h => ⟨_, fun k => rfl, b0_str x h.1 h.2⟩)
end Go.Mu
set_option linter.unusedVariables false
set_option linter.unusedSimpArgs false
set_option maxRecDepth 100000
namespace Go.Mu
open Go Go.Proofs
end Go.Mu
set_option linter.unusedVariables false
set_option linter.unusedSimpArgs false
set_option maxRecDepth 100000
namespace Go.Proofs
open Go.Shelf
def Tryd.pRen : Ren := {
  f := fun x => match x with
    | 138 => 233
    | 143 => 60
    | 145 => 141
    | 146 => 195
    | 156 => 45
    | 165 => 91
    | 166 => 92
    | 169 => 58
    | 195 => 235
    | 197 => 210
    | 217 => 110
    | 218 => 236
    | 219 => 111
    | 220 => 196
    | 221 => 224
    | 224 => 173
    | 225 => 172
    | 240 => 109
    | 241 => 147
    | 260 => 228
    | 266 => 171
    | 267 => 174
    | 268 => 232
    | 276 => 170
    | 277 => 199
    | 314 => 208
    | n => n,
  t := fun x => match x with
    | 0 => 0
    | 3 => 3
    | 4 => 4
    | 5 => 5
    | 9 => 9
    | 20 => 20
    | 21 => 21
    | 31 => 34
    | 37 => 94
    | 46 => 159
    | 51 => 203
    | 59 => 152
    | 70 => 96
    | 72 => 98
    | 75 => 100
    | 76 => 126
    | 80 => 103
    | 105 => 206
    | 119 => 220
    | 127 => 133
    | 138 => 222
    | 139 => 223
    | 146 => 204
    | 164 => 169
    | n => n,
  g := fun x => match x with
    | 1 => 0
    | 3 => 1
    | 4 => 2
    | n => n }
theorem Tryd.pRen_156 : Lays.n156 Tryd.prog Tryd.pRen := {
  mixed := by kernel_rfl
  f156 := Tryd.func45.trans (congrArg some (by kernel_rfl))
  f165 := Tryd.func91.trans (congrArg some (by kernel_rfl))
  f166 := Tryd.func92.trans (congrArg some (by kernel_rfl))
  f169 := Tryd.func58.trans (congrArg some (by kernel_rfl))
  f240 := Tryd.func109.trans (congrArg some (by kernel_rfl))
  f241 := Tryd.func147.trans (congrArg some (by kernel_rfl))
  f276 := Tryd.func170.trans (congrArg some (by kernel_rfl))
  f277 := Tryd.func199.trans (congrArg some (by kernel_rfl))
  t0 := Tryd.underlying0
  a0 := Tryd.isAgg0
  z0 := Tryd.sizeOf0
  v0 := Tryd.zeroValue0
  t3 := Tryd.underlying3
  a3 := Tryd.isAgg3
  z3 := Tryd.sizeOf3
  v3 := Tryd.zeroValue3
  t4 := Tryd.underlying4
  a4 := Tryd.isAgg4
  z4 := Tryd.sizeOf4
  v4 := Tryd.zeroValue4
  t9 := Tryd.underlying9
  a9 := Tryd.isAgg9
  z9 := Tryd.sizeOf9
  v9 := Tryd.zeroValue9
  t20 := Tryd.underlying20
  a20 := Tryd.isAgg20
  z20 := Tryd.sizeOf20
  v20 := Tryd.zeroValue20
  t31 := Tryd.underlying34
  a31 := Tryd.isAgg34
  z31 := Tryd.sizeOf34
  v31 := Tryd.zeroValue34
  t37 := Tryd.underlying94
  a37 := Tryd.isAgg94
  z37 := Tryd.sizeOf94
  v37 := Tryd.zeroValue94
  t70 := Tryd.underlying96
  a70 := Tryd.isAgg96
  z70 := Tryd.sizeOf96
  v70 := Tryd.zeroValue96
  t72 := Tryd.underlying98
  a72 := Tryd.isAgg98
  z72 := Tryd.sizeOf98
  v72 := Tryd.zeroValue98
  t75 := Tryd.underlying100
  a75 := Tryd.isAgg100
  z75 := Tryd.sizeOf100
  v75 := Tryd.zeroValue100
  t76 := Tryd.underlying126
  a76 := Tryd.isAgg126
  z76 := Tryd.sizeOf126
  v76 := Tryd.zeroValue126
  t127 := Tryd.underlying133
  a127 := Tryd.isAgg133
  z127 := Tryd.sizeOf133
  v127 := Tryd.zeroValue133
  t164 := Tryd.underlying169
  a164 := Tryd.isAgg169
  z164 := Tryd.sizeOf169
  v164 := Tryd.zeroValue169
}
theorem Tryd.pRen_X : Builder.Extra Tryd.prog Tryd.pRen := {
  sizeBuilder := by kernel_rfl
  liesBuilder := by kernel_rfl
  t5 := Tryd.underlying5
  a5 := Tryd.isAgg5
  z5 := Tryd.sizeOf5
  v5 := Tryd.zeroValue5
  infoByte := by kernel_rfl
  cellsByte := by kernel_rfl
  sizeByte := by kernel_rfl
  neB5 := by decide }
end Go.Proofs
namespace Go.Mu
open Go Go.Proofs Go.RowKit
section
variable {P : Program} {w w' : World} {E : Env} {H : Heap}
theorem Sim.freshV (sim : Sim w E H) (hb : Below w.heap.size w w') {Q : Nat → Prop} (hQ : ∀ b, Q b → w.heap.size ≤ b ∧ b < w'.heap.size) :
    Evo No w E H w' { E with imm := fun x => E.imm x ∨ Q x } H ∧ Sim w' { E with imm := fun x => E.imm x ∨ Q x } H := by
  have old : ∀ {b}, b < w.heap.size → w'.heap[b]? = w.heap[b]? := fun h => hb.block _ h
  have hsz := hb.size
  have ev : Evo No w E H w' { E with imm := fun x => E.imm x ∨ Q x } H := by
    refine ⟨hsz, fun b hb _ _ => old hb, fun b hb => ⟨.inl hb, old (sim.immLt b hb)⟩, fun b hb => ?_, fun k hk => ⟨hk, rfl⟩, fun k sz u hk => ⟨u, hk, Nat.le_refl _, fun _ => ⟨rfl, fun _ => rfl⟩⟩,
      fun k hk => .inr ⟨hk, rfl⟩, Nat.le_refl _, hb.tape, hb.os, hb.output⟩
    rcases hb with hb | hb
    · exact .inl hb
    · exact .inr (hQ _ hb).1
  have hs := ev.sees
  refine ⟨ev, fun b hb => ?_, fun k cs hc => (sim.var k cs hc).mono hs (old (sim.apart k (.inl (var_of_get hc))).2), fun k sz rows u hc => ?_, fun k hk => ⟨?_, ?_⟩, sim.inj, fun j t n hj hl => (sim.note j t n hj hl).same (old (sim.apart _ hl).2), sim.glob.mono hs.imm⟩
  · rcases hb with hb | hb
    · have := sim.immLt b hb; omega
    · exact (hQ _ hb).2
  · obtain ⟨h1, h2, h3, h4⟩ := sim.arr k sz rows u hc
    exact ⟨h1, h2, h3, fun hcap => (h4 hcap).mono hs (old (sim.apart k (.inr ⟨⟨sz, u, arr_of_get hc⟩, hcap⟩)).2)⟩
  · rintro (hb | hb)
    · exact (sim.apart k hk).1 hb
    · have := (sim.apart k hk).2; have := (hQ _ hb).1; simp only at this; omega
  · have := (sim.apart k hk).2; simp only; omega
theorem CallOK.freshV {f : FuncId} {xs : List AVal} {v : AVal} (h : ∀ w E (cs : List Value), Sim w E H → cs.length = xs.length → (∀ j, j < xs.length → Rep w E H (xs.getD j .undef) (cs.getD j undef)) →
    ∃ (Q : World → Nat → Prop) (c : Value), Calls P f cs.toArray w (fun e w' => e = .returned c ∧ Below w.heap.size w w' ∧ (∀ b, Q w' b → w.heap.size ≤ b ∧ b < w'.heap.size) ∧ RepP w' (fun x => E.imm x ∨ Q w' x) v c)) : CallOK P f xs H (.ret v H) := by
  intro w E cs sim hl hr
  obtain ⟨Q, c, h1⟩ := h w E cs sim hl hr
  refine Calls.mono h1 (fun e w' hp => ?_)
  obtain ⟨rfl, hb, hq, h2⟩ := hp
  obtain ⟨ev, sim'⟩ := sim.freshV hb hq
  exact ⟨_, ev, sim', .pure _ _ h2⟩
theorem repP_str {imm : Nat → Prop} {s : List UInt8} {c : Value} (h : RepP w imm (.str s) c) : ∃ b : ByteArray, c = .string b ∧ b.data.toList = s := by
  cases h with | str b => exact ⟨b, rfl, rfl⟩
def ba (s : List UInt8) : ByteArray := ⟨⟨s⟩⟩
theorem ba_size (s : List UInt8) : (ba s).size = s.length := rfl
theorem ba_eq {b : ByteArray} {s : List UInt8} (h : b.data.toList = s) : b = ba s := by
  subst h
  cases b with | mk d => cases d with | mk l => rfl
end
theorem sJoin_ok (full : Bool) (l : List (List UInt8)) (sep : List UInt8) (h1 : l.length ≤ 140737488355328) (h2 : (Lib.join l sep).length ≤ 140737488355328) : CallOK Tryd.prog 45 [encL full encS [] l, .str sep] [] (.ret (.str (Lib.join l sep)) []) := by
  refine CallOK.freshV (fun w E cs sim hl hr => ?_)
  obtain ⟨x, y, rfl⟩ : ∃ x y, cs = [x, y] := by
    match cs, hl with
    | [x, y], _ => exact ⟨x, y, rfl⟩
  obtain ⟨ad, cap, e1, hle, _, hb⟩ := rep_list (hr 0 (by simp))
  obtain ⟨t, e2, e3⟩ := rep_str (hr 1 (by simp))
  replace e1 : x = .slice ad l.length cap := e1
  replace e2 : y = .string t := e2
  have e4 := ba_eq e3
  subst e1 e2
  refine ⟨fun _ _ => False, .string (ba (Lib.join l sep)), ?_⟩
  have fin : ∀ w' : World, RepP w' (fun x => E.imm x ∨ False) (.str (Lib.join l sep)) (.string (ba (Lib.join l sep))) := fun w' => .str (ba (Lib.join l sep))
  cases hn : l with
  | nil =>
    refine (Any.strings_Join_none Tryd.pRen_156 Tryd.pRen_X ad cap t w).mono fun e w' ⟨he, hw⟩ => ⟨?_, hw ▸ Below.refl _ _, fun b h => h.elim, hn ▸ fin w'⟩
    rw [he]; rfl
  | cons a l' =>
    rw [← hn]
    have hne : l.length ≠ 0 := by rw [hn]; simp
    obtain ⟨blk, off, sz, cs, rfl, himm, hsz, hc1, hc2⟩ := hb hne
    have hsz1 : sz = 1 := (hsz 0 (by omega)).symm
    subst hsz1
    have em : (l.map ba).map (fun b : ByteArray => b.data.toList) = l := by
      rw [List.map_map]
      exact List.map_id' l
    have key := Any.strings_Join Tryd.pRen_156 Tryd.pRen_X blk off cap (l.map ba) t w (fun j x hx => by
      rw [List.getElem?_map] at hx
      cases hj : l[j]? with
      | none => rw [hj] at hx; simp at hx
      | some s =>
        rw [hj] at hx
        simp only [Option.map_some, Option.some.injEq] at hx
        have hjl : j < l.length := (List.getElem?_eq_some_iff.1 hj).1
        have g1 := (hc1 j 0 hjl (by omega)).1
        have g2 := hc2 j 0 hjl (by omega)
        have g3 : (encS (l.getD j [])).getD 0 .undef = .str s := by simp [encS, List.getD_eq_getElem?_getD, hj]
        rw [g3] at g2
        obtain ⟨b, h5, h6⟩ := repP_str g2
        rw [← hx, ← ba_eq h6, ← h5]
        have e5 : off + j * 1 + 0 = off + j := by omega
        rw [e5] at g1
        exact g1) (sim.immLt _ himm) (by rw [List.length_map]; exact h1) (by rw [List.length_map]; exact hle) (by rw [em, e3]; exact h2)
    rw [em, e3, List.length_map] at key
    exact key.mono fun e w' ⟨he, hw⟩ => ⟨he, hw, fun b h => h.elim, fin w'⟩
noncomputable def sJoinTold : FSp := mkF (fun xs H => (fullOf (xs.getD 0 .undef), decL decS (xs.getD 0 .undef), aS xs 1)) (fun x => x.2.1.length ≤ 140737488355328 ∧ (Lib.join x.2.1 x.2.2).length ≤ 140737488355328) (fun x => [encL x.1 encS [] x.2.1, .str x.2.2]) (fun _ => [])
  (fun x k => k (.ret (.str (Lib.join x.2.1 x.2.2)) []))
theorem sJoinTold_ok : ∀ xs H k out, sJoinTold xs H k = some out → ∃ o, CallOK Tryd.prog 45 xs H o ∧ k o = some out := mkF_ok fun x h => ⟨_, fun k => rfl, sJoin_ok _ _ _ h.1 h.2⟩
end Go.Mu
set_option linter.unusedVariables false
set_option linter.unusedSimpArgs false
set_option maxRecDepth 100000
namespace Go.Mu
open Go Go.Proofs Go.RowKit Go.Shelf
theorem tabs_of {w : World} {imm : Nat → Prop} (h : GlobOK w imm) : Lib.Utf8Tabs 1 2 w := by
  have key : ∀ g (cells : List AVal) (f : Nat → Nat) n, gvals g = some cells → cells.length = n → (∀ j, j < n → cells.getD j .undef = .int .u8 (f j)) → ∀ j, j < n → w.cell? ⟨g, j, none⟩ = some (.int .u8 (f j)) := by
    intro g cells f n hg hl hc j hj
    have hr := h.2 g cells hg
    obtain ⟨cs, h1, h2⟩ : ∃ cs : Nat → Value, (∀ j, j < cells.length → w.cell? ⟨g, 0 + j, none⟩ = some (cs j) ∧ (cs j).oneCell' = true) ∧ (∀ j, j < cells.length → RepP w imm (cells.getD j .undef) (cs j)) := by
      cases hr with
      | rptr _ _ _ cs _ h2 h3 => exact ⟨cs, h2, h3⟩
    have hx := (h1 j (by omega)).1
    have hy := h2 j (by omega)
    rw [hc j hj] at hy
    rw [Nat.zero_add] at hx
    rw [hx]
    generalize cs j = c at hy
    cases hy
    rfl
  refine ⟨fun c hc => ?_, fun i hi => ?_⟩
  · refine key 1 _ Lib.firstT 256 (by rfl) (by simp) (fun j hj => ?_) c hc
    simp [List.getD, hj]
  · have k2 := key 2 _ (fun j => if j % 2 = 0 then Lib.accLo (j / 2) else Lib.accHi (j / 2)) 32 (by rfl) (by simp) (fun j hj => by
      simp only [List.getD, List.getElem?_map, List.getElem?_range hj, Option.map_some, Option.getD_some]
      split <;> rfl)
    have a := k2 (2 * i) (by omega)
    have b := k2 (2 * i + 1) (by omega)
    simp only [show 2 * i % 2 = 0 by omega, show 2 * i / 2 = i by omega, show (2 * i + 1) % 2 ≠ 0 by omega, show (2 * i + 1) / 2 = i by omega, if_true, if_false] at a b
    exact ⟨a, by simpa using b⟩
theorem uDec (t : ByteArray) (w W : World) {imm : Nat → Prop} (h : GlobOK w imm) (hi : ∀ b, imm b → b < w.heap.size) (hb : Below w.heap.size w W) : DecAt W t := by
  have hT := Utf8Tabs_below (tabs_of h) hb
  exact Any.utf8_DecodeRuneInString Tryd.uRen_197 t W hT
theorem rep_ok (s : List UInt8) (hs : s.length ≤ 17592186044416) : CallOK Tryd.prog 95 [.str s] [] (.ret (.str (repF s.length ⟨s.toArray⟩)) []) := by
  refine CallOK.below (fun w E cs sim hl hr => ?_)
  obtain ⟨x, rfl⟩ : ∃ x, cs = [x] := by
    match cs, hl with
    | [x], _ => exact ⟨x, rfl⟩
  obtain ⟨b, e1, e2⟩ := rep_str (hr 0 (by simp))
  replace e1 : x = .string b := e1
  subst e1
  rw [ba_eq e2]
  have hsz : (ba s).size = s.length := by simp [ba, ByteArray.size]
  refine ⟨.string ⟨(repF s.length (ba s)).toArray⟩, ?_, .pure _ _ (.str (ba (repF s.length (ba s))))⟩
  have := uRepair (fun _ => True) (fun _ _ _ => trivial) (ba s) w trivial (by omega) (fun t W _ _ hb => uDec t w W sim.glob sim.immLt hb)
  rwa [hsz] at this
def repB (s : List UInt8) : List UInt8 := repF s.length ⟨s.toArray⟩
def repTTold : FSp := mkFS [.s] (fun xs => decide ((aS xs 0).length ≤ 17592186044416)) (fun xs k => k (.ret (.str (repB (aS xs 0))) []))
theorem repTTold_ok : ∀ xs H k out, repTTold xs H k = some out → ∃ o, CallOK Tryd.prog 95 xs H o ∧ k o = some out := mkFS_ok fun ys xs e h => by
  obtain ⟨s, rfl⟩ : ∃ s, xs = [.str s] := ⟨_, e⟩
  rw [decide_eq_true_eq] at h
  exact ⟨_, fun k => rfl, rep_ok s h⟩
end Go.Mu
set_option linter.unusedVariables false
set_option linter.unusedSimpArgs false
set_option maxRecDepth 100000
namespace Go.Mu
open Go Go.Proofs
theorem hex2_fun (n : Int) (k : Out → Ans) : iFun Tryd.prog (Lay.nil.hd Tryd.prog) Lay.nil.fhs 9 204 [.int .i64 n, .int .i64 2] [] k = (
 let n0 : Int := IntKind.u64.wrap (↑(BitVec.ofInt 64 ((IntKind.u64.wrap n).fdiv 1) &&& BitVec.ofInt 64 15).toNat : Int);
 let n1 : Int := IntKind.u64.wrap (↑(BitVec.ofInt 64 ((IntKind.u64.wrap n).fdiv 16) &&& BitVec.ofInt 64 15).toNat : Int);
  bif decide (n0 < 16) then
  bif decide (n1 < 16) then
  k
  (Out.ret
  (AVal.str
  [byteOf
  [AVal.int IntKind.u8
  (↑(([48, 49, 50, 51, 52, 53, 54, 55, 56, 57, 97, 98, 99, 100, 101, 102] : List UInt8).getD n1.toNat 0).toNat : Int)],
  byteOf
  [AVal.int IntKind.u8
  (↑(([48, 49, 50, 51, 52, 53, 54, 55, 56, 57, 97, 98, 99, 100, 101, 102] : List UInt8).getD n0.toNat 0).toNat :
  Int)]])
  [Obj.arr 1
  [[AVal.int IntKind.u8
  (↑(([48, 49, 50, 51, 52, 53, 54, 55, 56, 57, 97, 98, 99, 100, 101, 102] : List UInt8).getD n1.toNat 0).toNat : Int)],
  [AVal.int IntKind.u8
  (↑(([48, 49, 50, 51, 52, 53, 54, 55, 56, 57, 97, 98, 99, 100, 101, 102] : List UInt8).getD n0.toNat 0).toNat : Int)]]
  0])
  else none
  else none) := by kernel_rfl
theorem hex4_fun (n : Int) (k : Out → Ans) : iFun Tryd.prog (Lay.nil.hd Tryd.prog) Lay.nil.fhs 9 204 [.int .i64 n, .int .i64 4] [] k = (
 let n0 : Int := IntKind.u64.wrap (↑(BitVec.ofInt 64 ((IntKind.u64.wrap n).fdiv 1) &&& BitVec.ofInt 64 15).toNat : Int);
 let n1 : Int := IntKind.u64.wrap (↑(BitVec.ofInt 64 ((IntKind.u64.wrap n).fdiv 16) &&& BitVec.ofInt 64 15).toNat : Int);
 let n2 : Int :=
  IntKind.u64.wrap (↑(BitVec.ofInt 64 ((IntKind.u64.wrap n).fdiv 256) &&& BitVec.ofInt 64 15).toNat : Int);
 let n3 : Int :=
  IntKind.u64.wrap (↑(BitVec.ofInt 64 ((IntKind.u64.wrap n).fdiv 4096) &&& BitVec.ofInt 64 15).toNat : Int);
  bif decide (n0 < 16) then
  bif decide (n1 < 16) then
  bif decide (n2 < 16) then
  bif decide (n3 < 16) then
  k
  (Out.ret
  (AVal.str
  [byteOf
  [AVal.int IntKind.u8
  (↑(([48, 49, 50, 51, 52, 53, 54, 55, 56, 57, 97, 98, 99, 100, 101, 102] : List UInt8).getD n3.toNat 0).toNat :
  Int)],
  byteOf
  [AVal.int IntKind.u8
  (↑(([48, 49, 50, 51, 52, 53, 54, 55, 56, 57, 97, 98, 99, 100, 101, 102] : List UInt8).getD n2.toNat 0).toNat :
  Int)],
  byteOf
  [AVal.int IntKind.u8
  (↑(([48, 49, 50, 51, 52, 53, 54, 55, 56, 57, 97, 98, 99, 100, 101, 102] : List UInt8).getD n1.toNat 0).toNat :
  Int)],
  byteOf
  [AVal.int IntKind.u8
  (↑(([48, 49, 50, 51, 52, 53, 54, 55, 56, 57, 97, 98, 99, 100, 101, 102] : List UInt8).getD n0.toNat 0).toNat :
  Int)]])
  [Obj.arr 1
  [[AVal.int IntKind.u8
  (↑(([48, 49, 50, 51, 52, 53, 54, 55, 56, 57, 97, 98, 99, 100, 101, 102] : List UInt8).getD n3.toNat 0).toNat :
  Int)],
  [AVal.int IntKind.u8
  (↑(([48, 49, 50, 51, 52, 53, 54, 55, 56, 57, 97, 98, 99, 100, 101, 102] : List UInt8).getD n2.toNat 0).toNat :
  Int)],
  [AVal.int IntKind.u8
  (↑(([48, 49, 50, 51, 52, 53, 54, 55, 56, 57, 97, 98, 99, 100, 101, 102] : List UInt8).getD n1.toNat 0).toNat :
  Int)],
  [AVal.int IntKind.u8
  (↑(([48, 49, 50, 51, 52, 53, 54, 55, 56, 57, 97, 98, 99, 100, 101, 102] : List UInt8).getD n0.toNat 0).toNat :
  Int)]]
  0])
  else none
  else none
  else none
  else none) := by kernel_rfl
def hexTold (X : Int → Int → List UInt8) : FSp := mkFS [.i .i64, .i .i64] (fun xs => decide (0 ≤ aI xs 0 ∧ (aI xs 1 = 2 ∧ aI xs 0 ≤ 255 ∨ aI xs 1 = 4 ∧ aI xs 0 ≤ 65535))) (fun xs k => k (.ret (.str (X (aI xs 0) (aI xs 1))) []))
/- Escape -/
def urpTold (R : List UInt8 → List UInt8) : FSp := mkFS [.s] (fun xs => decide ((aS xs 0).length ≤ 17592186044416)) (fun xs k => k (.ret (.str (R (aS xs 0))) []))
noncomputable def layEs0 (R : List UInt8 → List UInt8) : Lay := b0_lay (Lay.nil.addF 95 (urpTold R))
noncomputable def escSp (E : Bld → List UInt8 → Bld) : LSp := mkL (fun vs _ H => (bld H 0 2, decL decB (vs.getD 1 .undef), (aI vs 3).toNat, fullOf (vs.getD 1 .undef))) (fun x => x.1.can 0 2 ∧ x.1.t.length = 0 ∧ x.2.2.1 = 0 ∧ x.2.1.length ≤ 107374182) (fun x => [.ptr (.hp 0) 0, byL x.2.2.2 x.2.1, .int .i64 x.2.1.length, .int .i64 x.2.2.1]) (fun _ => []) (fun x => (b0H.mk x.1).heap)
  (fun x k => k (.exit 0) [.ptr (.hp 0) 0] [] (b0H.mk (E x.1 x.2.1)).heap)
noncomputable def escFH (E : Bld → List UInt8 → Bld) : FH := { FH.of [(3, loopSpec 37 [3,8,9,10] [] [3] [] (escSp E))] with heap := [3], typed := [(3, [(0, bT)])], exact := true }
theorem esc_step (R : List UInt8 → List UInt8) (E : Bld → List UInt8 → Bld) (x : Bld) (f : Bool) (l : List UInt8) (n i : Int) (D : List (FuncId × List AVal)) (k : Kont) (n0 : Int) (e_n0 : n0 = ((↑(l.getD i.toNat 0).toNat : Int)))
  (l1 : List UInt8) (e_l1 : l1 = ((Bld.mk x.ad x.b x.rows x.v).t))
  (m2 : Nat) (e_m2 : m2 = (l1.length))
  (m3 : Nat) (e_m3 : m3 = (wsV l1 [38, 97, 109, 112, 59] x.v))
  (m4 : Nat) (e_m4 : m4 = (wsV l1 [38, 108, 116, 59] x.v))
  (m5 : Nat) (e_m5 : m5 = (wsV l1 [38, 103, 116, 59] x.v))
  (m6 : Nat) (e_m6 : m6 = (wsV l1 [38, 35, 51, 52, 59] x.v))
  (m7 : Nat) (e_m7 : m7 = (wsV l1 [38, 35, 51, 57, 59] x.v))
  (m8 : Nat) (e_m8 : m8 = (wsV l1 [38, 35, 52, 51, 59] x.v))
  (v9 : UInt8) (e_v9 : v9 = (UInt8.ofNat n0.toNat))
  (l10 : List UInt8) (e_l10 : l10 = ([v9]))
  (m11 : Nat) (e_m11 : m11 = (wsV l1 l10 x.v)) : lturn Tryd.prog (layEs0 R) (escFH E) 50 3 [3,8,9,10] [] [3] [] (stL 37 [3,8,9,10] [.ptr (.hp 0) 0, byL f l, .int .i64 n, .int .i64 i] [] [] (b0H.mk x).heap D) k = (
  bif decide (i < n) then
  bif decide (0 ≤ i) && decide (i < (↑l.length : Int)) then
  bif n0 == 38 then
  bif
  tst
  ((Bld.can 0 2 (Bld.mk x.ad x.b x.rows x.v) ∧ m2 + 5 ≤ 1099511627776) ∧
  SubL [AVal.ptr (Oid.hp 0) 0, AVal.str [38, 97, 109, 112, 59]]
  [AVal.ptr (Oid.hp 0) 0, AVal.str [38, 97, 109, 112, 59]] ∧
  (b0H.mk x).heap = (b0H.mk (Bld.mk x.ad x.b x.rows x.v)).heap) then
  k AExit.normal
  (stL 37 [3, 8, 9, 10]
  [AVal.ptr (Oid.hp 0) 0,
  AVal.list f l.length fun (i : Nat) => [AVal.int IntKind.u8 (↑(l.getD i 0).toNat : Int)],
  AVal.int IntKind.i64 n, AVal.int IntKind.i64 (IntKind.i64.wrap (i + 1))]
  [] []
  (b0H.mk
  (Bld.mk (AVal.ptr (Oid.hp 0) 0) (bfB 2 (l1.append [38, 97, 109, 112, 59]) m3)
  (x.rows.append
  [[AVal.int IntKind.u8 38], [AVal.int IntKind.u8 97], [AVal.int IntKind.u8 109],
  [AVal.int IntKind.u8 112], [AVal.int IntKind.u8 59]])
  m3)).heap
  D)
  else none
  else
  bif n0 == 60 then
  bif
  tst
  ((Bld.can 0 2 (Bld.mk x.ad x.b x.rows x.v) ∧ m2 + 4 ≤ 1099511627776) ∧
  SubL [AVal.ptr (Oid.hp 0) 0, AVal.str [38, 108, 116, 59]]
  [AVal.ptr (Oid.hp 0) 0, AVal.str [38, 108, 116, 59]] ∧
  (b0H.mk x).heap = (b0H.mk (Bld.mk x.ad x.b x.rows x.v)).heap) then
  k AExit.normal
  (stL 37 [3, 8, 9, 10]
  [AVal.ptr (Oid.hp 0) 0,
  AVal.list f l.length fun (i : Nat) => [AVal.int IntKind.u8 (↑(l.getD i 0).toNat : Int)],
  AVal.int IntKind.i64 n, AVal.int IntKind.i64 (IntKind.i64.wrap (i + 1))]
  [] []
  (b0H.mk
  (Bld.mk (AVal.ptr (Oid.hp 0) 0) (bfB 2 (l1.append [38, 108, 116, 59]) m4)
  (x.rows.append
  [[AVal.int IntKind.u8 38], [AVal.int IntKind.u8 108], [AVal.int IntKind.u8 116],
  [AVal.int IntKind.u8 59]])
  m4)).heap
  D)
  else none
  else
  bif n0 == 62 then
  bif
  tst
  ((Bld.can 0 2 (Bld.mk x.ad x.b x.rows x.v) ∧ m2 + 4 ≤ 1099511627776) ∧
  SubL [AVal.ptr (Oid.hp 0) 0, AVal.str [38, 103, 116, 59]]
  [AVal.ptr (Oid.hp 0) 0, AVal.str [38, 103, 116, 59]] ∧
  (b0H.mk x).heap = (b0H.mk (Bld.mk x.ad x.b x.rows x.v)).heap) then
  k AExit.normal
  (stL 37 [3, 8, 9, 10]
  [AVal.ptr (Oid.hp 0) 0,
  AVal.list f l.length fun (i : Nat) => [AVal.int IntKind.u8 (↑(l.getD i 0).toNat : Int)],
  AVal.int IntKind.i64 n, AVal.int IntKind.i64 (IntKind.i64.wrap (i + 1))]
  [] []
  (b0H.mk
  (Bld.mk (AVal.ptr (Oid.hp 0) 0) (bfB 2 (l1.append [38, 103, 116, 59]) m5)
  (x.rows.append
  [[AVal.int IntKind.u8 38], [AVal.int IntKind.u8 103], [AVal.int IntKind.u8 116],
  [AVal.int IntKind.u8 59]])
  m5)).heap
  D)
  else none
  else
  bif n0 == 34 then
  bif
  tst
  ((Bld.can 0 2 (Bld.mk x.ad x.b x.rows x.v) ∧ m2 + 5 ≤ 1099511627776) ∧
  SubL [AVal.ptr (Oid.hp 0) 0, AVal.str [38, 35, 51, 52, 59]]
  [AVal.ptr (Oid.hp 0) 0, AVal.str [38, 35, 51, 52, 59]] ∧
  (b0H.mk x).heap = (b0H.mk (Bld.mk x.ad x.b x.rows x.v)).heap) then
  k AExit.normal
  (stL 37 [3, 8, 9, 10]
  [AVal.ptr (Oid.hp 0) 0,
  AVal.list f l.length fun (i : Nat) => [AVal.int IntKind.u8 (↑(l.getD i 0).toNat : Int)],
  AVal.int IntKind.i64 n, AVal.int IntKind.i64 (IntKind.i64.wrap (i + 1))]
  [] []
  (b0H.mk
  (Bld.mk (AVal.ptr (Oid.hp 0) 0) (bfB 2 (l1.append [38, 35, 51, 52, 59]) m6)
  (x.rows.append
  [[AVal.int IntKind.u8 38], [AVal.int IntKind.u8 35], [AVal.int IntKind.u8 51],
  [AVal.int IntKind.u8 52], [AVal.int IntKind.u8 59]])
  m6)).heap
  D)
  else none
  else
  bif n0 == 39 then
  bif
  tst
  ((Bld.can 0 2 (Bld.mk x.ad x.b x.rows x.v) ∧ m2 + 5 ≤ 1099511627776) ∧
  SubL [AVal.ptr (Oid.hp 0) 0, AVal.str [38, 35, 51, 57, 59]]
  [AVal.ptr (Oid.hp 0) 0, AVal.str [38, 35, 51, 57, 59]] ∧
  (b0H.mk x).heap = (b0H.mk (Bld.mk x.ad x.b x.rows x.v)).heap) then
  k AExit.normal
  (stL 37 [3, 8, 9, 10]
  [AVal.ptr (Oid.hp 0) 0,
  AVal.list f l.length fun (i : Nat) => [AVal.int IntKind.u8 (↑(l.getD i 0).toNat : Int)],
  AVal.int IntKind.i64 n, AVal.int IntKind.i64 (IntKind.i64.wrap (i + 1))]
  [] []
  (b0H.mk
  (Bld.mk (AVal.ptr (Oid.hp 0) 0) (bfB 2 (l1.append [38, 35, 51, 57, 59]) m7)
  (x.rows.append
  [[AVal.int IntKind.u8 38], [AVal.int IntKind.u8 35], [AVal.int IntKind.u8 51],
  [AVal.int IntKind.u8 57], [AVal.int IntKind.u8 59]])
  m7)).heap
  D)
  else none
  else
  bif n0 == 43 then
  bif
  tst
  ((Bld.can 0 2 (Bld.mk x.ad x.b x.rows x.v) ∧ m2 + 5 ≤ 1099511627776) ∧
  SubL [AVal.ptr (Oid.hp 0) 0, AVal.str [38, 35, 52, 51, 59]]
  [AVal.ptr (Oid.hp 0) 0, AVal.str [38, 35, 52, 51, 59]] ∧
  (b0H.mk x).heap = (b0H.mk (Bld.mk x.ad x.b x.rows x.v)).heap) then
  k AExit.normal
  (stL 37 [3, 8, 9, 10]
  [AVal.ptr (Oid.hp 0) 0,
  AVal.list f l.length fun (i : Nat) => [AVal.int IntKind.u8 (↑(l.getD i 0).toNat : Int)],
  AVal.int IntKind.i64 n, AVal.int IntKind.i64 (IntKind.i64.wrap (i + 1))]
  [] []
  (b0H.mk
  (Bld.mk (AVal.ptr (Oid.hp 0) 0) (bfB 2 (l1.append [38, 35, 52, 51, 59]) m8)
  (x.rows.append
  [[AVal.int IntKind.u8 38], [AVal.int IntKind.u8 35], [AVal.int IntKind.u8 52],
  [AVal.int IntKind.u8 51], [AVal.int IntKind.u8 59]])
  m8)).heap
  D)
  else none
  else
  bif
  tst
  ((Bld.can 0 2 (Bld.mk x.ad x.b x.rows x.v) ∧ m2 ≤ 1073741824) ∧
  SubL [AVal.ptr (Oid.hp 0) 0, AVal.int IntKind.u8 n0]
  [AVal.ptr (Oid.hp 0) 0, AVal.int IntKind.u8 (↑v9.toNat : Int)] ∧
  (b0H.mk x).heap = (b0H.mk (Bld.mk x.ad x.b x.rows x.v)).heap) then
  k AExit.normal
  (stL 37 [3, 8, 9, 10]
  [AVal.ptr (Oid.hp 0) 0,
  AVal.list f l.length fun (i : Nat) => [AVal.int IntKind.u8 (↑(l.getD i 0).toNat : Int)],
  AVal.int IntKind.i64 n, AVal.int IntKind.i64 (IntKind.i64.wrap (i + 1))]
  [] []
  (b0H.mk
  (Bld.mk (AVal.ptr (Oid.hp 0) 0) (bfB 2 (l1.append l10) m11)
  (x.rows.append [[AVal.int IntKind.u8 (↑v9.toNat : Int)]]) m11)).heap
  D)
  else none
  else none
  else k (AExit.exit 0) (stL 37 [3] [AVal.ptr (Oid.hp 0) 0] [] [] (b0H.mk x).heap D)) := by
  subst e_n0 e_l1 e_m2 e_m3 e_m4 e_m5 e_m6 e_m7 e_m8 e_v9 e_l10 e_m11
  kernel_rfl
noncomputable def layEs (R : List UInt8 → List UInt8) (E : Bld → List UInt8 → Bld) : Lay := (layEs0 R).addL 50 (escFH E)
theorem esc_fun (R : List UInt8 → List UInt8) (E : Bld → List UInt8 → Bld) (s : List UInt8) (k : Out → Ans) (l0 : List UInt8) (e_l0 : l0 = (decL (fun (r : List AVal) => byteOf r)
    (AVal.list false (R s).length fun (i : Nat) => [AVal.int IntKind.u8 (↑((R s).getD i 0).toNat : Int)])))
  (m1 : Nat) (e_m1 : m1 = (l0.length))
  (m2 : Nat) (e_m2 : m2 = ((E (Bld.mk AVal.nilptr AVal.nilX [] 0) l0).v))
  (l3 : List UInt8) (e_l3 : l3 = ((Bld.mk (E (Bld.mk AVal.nilptr AVal.nilX [] 0) l0).ad (E (Bld.mk AVal.nilptr AVal.nilX [] 0) l0).b
      (E (Bld.mk AVal.nilptr AVal.nilX [] 0) l0).rows m2).t)) : iFun Tryd.prog ((layEs R E).hd Tryd.prog) (layEs R E).fhs 0 50 [.str s] [] k = (
  bif decide (s.length ≤ 17592186044416) then
    bif
        tst
          ((Bld.can 0 2 (Bld.mk AVal.nilptr AVal.nilX [] 0) ∧ 0 = 0 ∧ Int.toNat 0 = 0 ∧ m1 ≤ 107374182) ∧
            SubTL
                [AVal.ptr (Oid.hp 0) 0,
                  AVal.list false (R s).length fun (i : Nat) => [AVal.int IntKind.u8 (↑((R s).getD i 0).toNat : Int)],
                  AVal.int IntKind.i64 (↑(R s).length : Int), AVal.int IntKind.i64 0]
                [AVal.ptr (Oid.hp 0) 0, byL false l0, AVal.int IntKind.i64 (↑m1 : Int),
                  AVal.int IntKind.i64 (↑(Int.toNat 0) : Int)] ∧
              ([] : List (List AVal)) = [] ∧
                [Obj.var [AVal.nilptr, AVal.nilX], Obj.note 98 2, Obj.arr 1 [] 0, Obj.note 5 0] =
                  (b0H.mk (Bld.mk AVal.nilptr AVal.nilX [] 0)).heap) then
      bif
          tst
            ((Bld.can 0 2
                  (Bld.mk (E (Bld.mk AVal.nilptr AVal.nilX [] 0) l0).ad (E (Bld.mk AVal.nilptr AVal.nilX [] 0) l0).b
                    (E (Bld.mk AVal.nilptr AVal.nilX [] 0) l0).rows m2) ∧
                l3.length ≤ 1099511627776) ∧
              SubL [AVal.ptr (Oid.hp 0) 0] [AVal.ptr (Oid.hp 0) 0] ∧
                (b0H.mk (E (Bld.mk AVal.nilptr AVal.nilX [] 0) l0)).heap =
                  (b0H.mk
                      (Bld.mk (E (Bld.mk AVal.nilptr AVal.nilX [] 0) l0).ad (E (Bld.mk AVal.nilptr AVal.nilX [] 0) l0).b
                        (E (Bld.mk AVal.nilptr AVal.nilX [] 0) l0).rows m2)).heap) then
        k
          (Out.ret (AVal.str l3)
            (b0H.mk
                (Bld.mk (E (Bld.mk AVal.nilptr AVal.nilX [] 0) l0).ad (E (Bld.mk AVal.nilptr AVal.nilX [] 0) l0).b []
                  (bif l3 == [] then m2 else m2 + 1))).heap)
      else none
    else none
  else none) := by
  subst e_l0 e_m1 e_m2 e_l3
  kernel_rfl
/- percent -/
noncomputable def layPm : Lay := (Lay.nil.addF 57 ibTold).addF 182 unhexTold
theorem mayN_fun (s : List UInt8) (i : Int) (k : Out → Ans) : iFun Tryd.prog (layPm.hd Tryd.prog) layPm.fhs 0 157 [.str s, .int .i64 i] [] k = (
 let n0 : Int := (↑s.length : Int);
 let c1 : Bool := decide (0 ≤ i) && decide (i < n0);
 let n2 : Int := (↑(s.getD i.toNat 0).toNat : Int);
 let n3 : Int := IntKind.u8.wrap (↑(BitVec.ofInt 8 n2 ||| BitVec.ofInt 8 32).toNat : Int);
 let c4 : Bool :=
  bif
  bif bif decide (n3 ≥ 97) then decide (n3 ≤ 122) else false then true
  else bif decide (n2 ≥ 48) then decide (n2 ≤ 57) else false then
  true
  else decide (ibM [45, 46, 95, 126] n2 ≥ 0);
 let c5 : Bool := bif c4 then true else decide (ibM [33, 35, 36, 38, 42, 43, 44, 47, 58, 59, 61, 63, 64, 91, 93] n2 ≥ 0);
 let n6 : Int := IntKind.i64.wrap (i + 1);
 let n7 : Int := IntKind.i64.wrap (i + 3);
  bif c1 then
  bif c1 || !!c4 then
  bif c1 then
  bif bif n2 != 37 then true else decide (IntKind.i64.wrap (n0 - i) < 3) then
  k (Out.ret (AVal.bool (bif c5 then true else false)) [])
  else
  bif decide (0 ≤ n6) && decide (n6 ≤ n7) && decide (n7 ≤ n0) then
  k
  (Out.ret (AVal.bool (bif c5 then true else (unhexM (List.drop n6.toNat (List.take n7.toNat s))).snd == 0))
  [])
  else none
  else none
  else none
  else none) := by kernel_rfl
theorem mayE_fun (s : List UInt8) (i : Int) (k : Out → Ans) : iFun Tryd.prog (layPm.hd Tryd.prog) layPm.fhs 0 161 [.str s, .int .i64 i] [] k = (
 let n0 : Int := (↑(s.getD i.toNat 0).toNat : Int);
 let n1 : Int := IntKind.u8.wrap (↑(BitVec.ofInt 8 n0 ||| BitVec.ofInt 8 32).toNat : Int);
  bif decide (0 ≤ i) && decide (i < (↑s.length : Int)) then
  k
  (Out.ret
  (AVal.bool
  (bif
  bif bif decide (n1 ≥ 97) then decide (n1 ≤ 122) else false then true
  else bif decide (n0 ≥ 48) then decide (n0 ≤ 57) else false then
  true
  else decide (ibM [45, 46, 95, 126] n0 ≥ 0)))
  [])
  else none) := by kernel_rfl
def mayTold (M : List UInt8 → Int → Bool) : FSp := mkFS [.s, .i .i64] (fun xs => decide (0 ≤ aI xs 1 ∧ aI xs 1 < (aS xs 0).length ∧ (aS xs 0).length ≤ 1099511627776)) (fun xs k => k (.ret (.bool (M (aS xs 0) (aI xs 1))) []))
noncomputable def wrSp (g : FuncId) (E : Bld → List UInt8 → Bld) : LSp := mkL (fun vs _ H => (bld H 0 2, aS vs 0, (aI vs 4).toNat)) (fun x => x.1.can 0 2 ∧ x.1.t.length = 0 ∧ x.2.2 = 0 ∧ x.2.1.length ≤ 268435456) (fun x => [.str x.2.1, .func g [], .ptr (.hp 0) 0, .int .i64 x.2.1.length, .int .i64 x.2.2]) (fun _ => []) (fun x => (b0H.mk x.1).heap)
  (fun x k => k (.exit 0) [.ptr (.hp 0) 0] [] (b0H.mk (E x.1 x.2.1)).heap)
noncomputable def wrFH (g : FuncId) (E : Bld → List UInt8 → Bld) : FH := { FH.of [(3, loopSpec 29 [0,1,5,8,9] [] [5] [] (wrSp g E))] with heap := [5], typed := [(5, [(0, bT)])], exact := true }
noncomputable def layWn0 (X : Int → Int → List UInt8) (M : List UInt8 → Int → Bool) (R : List UInt8 → List UInt8) : Lay := b0_lay (((Lay.nil.addF 204 (hexTold X)).addF 157 (mayTold M)).addF 95 (urpTold R))
noncomputable def layWe0 (X : Int → Int → List UInt8) (M : List UInt8 → Int → Bool) (R : List UInt8 → List UInt8) : Lay := b0_lay (((Lay.nil.addF 204 (hexTold X)).addF 161 (mayTold M)).addF 95 (urpTold R))
theorem wn_step (X : Int → Int → List UInt8) (M : List UInt8 → Int → Bool) (R : List UInt8 → List UInt8) (E : Bld → List UInt8 → Bld) (x : Bld) (s : List UInt8) (n i : Int) (D : List (FuncId × List AVal)) (k : Kont) (c0 : Bool) (e_c0 : c0 = (decide (0 ≤ i) && decide (i < (↑s.length : Int))))
  (l1 : List UInt8) (e_l1 : l1 = ((Bld.mk x.ad x.b x.rows x.v).t))
  (n2 : Int) (e_n2 : n2 = ((↑(s.getD i.toNat 0).toNat : Int)))
  (v3 : UInt8) (e_v3 : v3 = (UInt8.ofNat n2.toNat))
  (l4 : List UInt8) (e_l4 : l4 = ([v3]))
  (m5 : Nat) (e_m5 : m5 = (wsV l1 l4 x.v))
  (n6 : Int) (e_n6 : n6 = (IntKind.i64.wrap n2))
  (m7 : Nat) (e_m7 : m7 = (wsV l1 [UInt8.ofNat (Int.toNat 37)] x.v))
  (l8 : List UInt8) (e_l8 : l8 = ((Bld.mk (AVal.ptr (Oid.hp 0) 0) (bfB 2 (l1.append [UInt8.ofNat (Int.toNat 37)]) m7)
      (x.rows.append [[AVal.int IntKind.u8 (↑(UInt8.ofNat (Int.toNat 37)).toNat : Int)]]) m7).t))
  (l9 : List UInt8) (e_l9 : l9 = (X n6 2))
  (m10 : Nat) (e_m10 : m10 = (wsV l8 l9 m7)) : lturn Tryd.prog (layWn0 X M R) (wrFH 157 E) 156 3 [0,1,5,8,9] [] [5] [] (stL 29 [0,1,5,8,9] [.str s, .func 157 [], .ptr (.hp 0) 0, .int .i64 n, .int .i64 i] [] [] (b0H.mk x).heap D) k = (
  bif decide (i < n) then
  bif decide (0 ≤ i ∧ i < (↑s.length : Int) ∧ s.length ≤ 1099511627776) then
  bif M s i then
  bif c0 then
  bif
  tst
  ((Bld.can 0 2 (Bld.mk x.ad x.b x.rows x.v) ∧ l1.length ≤ 1073741824) ∧
  SubL [AVal.ptr (Oid.hp 0) 0, AVal.int IntKind.u8 n2]
  [AVal.ptr (Oid.hp 0) 0, AVal.int IntKind.u8 (↑v3.toNat : Int)] ∧
  (b0H.mk x).heap = (b0H.mk (Bld.mk x.ad x.b x.rows x.v)).heap) then
  k AExit.normal
  (stL 29 [0, 1, 5, 8, 9]
  [AVal.str s, AVal.func 157 [], AVal.ptr (Oid.hp 0) 0, AVal.int IntKind.i64 n,
  AVal.int IntKind.i64 (IntKind.i64.wrap (i + 1))]
  [] []
  (b0H.mk
  (Bld.mk (AVal.ptr (Oid.hp 0) 0) (bfB 2 (l1.append l4) m5)
  (x.rows.append [[AVal.int IntKind.u8 (↑v3.toNat : Int)]]) m5)).heap
  D)
  else none
  else none
  else
  bif
  tst
  ((Bld.can 0 2 (Bld.mk x.ad x.b x.rows x.v) ∧ l1.length ≤ 1073741824) ∧
  SubL [AVal.ptr (Oid.hp 0) 0, AVal.int IntKind.u8 37]
  [AVal.ptr (Oid.hp 0) 0, AVal.int IntKind.u8 (↑(UInt8.ofNat (Int.toNat 37)).toNat : Int)] ∧
  (b0H.mk x).heap = (b0H.mk (Bld.mk x.ad x.b x.rows x.v)).heap) then
  bif c0 then
  bif decide (0 ≤ n6 ∧ ((2 : Int) = 2 ∧ n6 ≤ 255 ∨ (2 : Int) = 4 ∧ n6 ≤ 65535)) then
  bif
  tst
  ((Bld.can 0 2
  (Bld.mk (AVal.ptr (Oid.hp 0) 0) (bfB 2 (l1.append [UInt8.ofNat (Int.toNat 37)]) m7)
  (x.rows.append [[AVal.int IntKind.u8 (↑(UInt8.ofNat (Int.toNat 37)).toNat : Int)]]) m7) ∧
  l8.length + l9.length ≤ 1099511627776) ∧
  SubL [AVal.ptr (Oid.hp 0) 0, AVal.str l9] [AVal.ptr (Oid.hp 0) 0, AVal.str l9] ∧
  (b0H.mk
  (Bld.mk (AVal.ptr (Oid.hp 0) 0) (bfB 2 (l1.append [UInt8.ofNat (Int.toNat 37)]) m7)
  (x.rows.append [[AVal.int IntKind.u8 (↑(UInt8.ofNat (Int.toNat 37)).toNat : Int)]])
  m7)).heap =
  (b0H.mk
  (Bld.mk (AVal.ptr (Oid.hp 0) 0) (bfB 2 (l1.append [UInt8.ofNat (Int.toNat 37)]) m7)
  (x.rows.append [[AVal.int IntKind.u8 (↑(UInt8.ofNat (Int.toNat 37)).toNat : Int)]])
  m7)).heap) then
  k AExit.normal
  (stL 29 [0, 1, 5, 8, 9]
  [AVal.str s, AVal.func 157 [], AVal.ptr (Oid.hp 0) 0, AVal.int IntKind.i64 n,
  AVal.int IntKind.i64 (IntKind.i64.wrap (i + 1))]
  [] []
  (b0H.mk
  (Bld.mk (AVal.ptr (Oid.hp 0) 0) (bfB 2 (l8.append l9) m10)
  ((x.rows.append [[AVal.int IntKind.u8 (↑(UInt8.ofNat (Int.toNat 37)).toNat : Int)]]).append
  (List.map (fun (c : UInt8) => [AVal.int IntKind.u8 (↑c.toNat : Int)]) l9))
  m10)).heap
  D)
  else none
  else none
  else none
  else none
  else none
  else k (AExit.exit 0) (stL 29 [5] [AVal.ptr (Oid.hp 0) 0] [] [] (b0H.mk x).heap D)) := by
  subst e_c0 e_l1 e_n2 e_v3 e_l4 e_m5 e_n6 e_m7 e_l8 e_l9 e_m10
  kernel_rfl
theorem we_step (X : Int → Int → List UInt8) (M : List UInt8 → Int → Bool) (R : List UInt8 → List UInt8) (E : Bld → List UInt8 → Bld) (x : Bld) (s : List UInt8) (n i : Int) (D : List (FuncId × List AVal)) (k : Kont) (c0 : Bool) (e_c0 : c0 = (decide (0 ≤ i) && decide (i < (↑s.length : Int))))
  (l1 : List UInt8) (e_l1 : l1 = ((Bld.mk x.ad x.b x.rows x.v).t))
  (n2 : Int) (e_n2 : n2 = ((↑(s.getD i.toNat 0).toNat : Int)))
  (v3 : UInt8) (e_v3 : v3 = (UInt8.ofNat n2.toNat))
  (l4 : List UInt8) (e_l4 : l4 = ([v3]))
  (m5 : Nat) (e_m5 : m5 = (wsV l1 l4 x.v))
  (n6 : Int) (e_n6 : n6 = (IntKind.i64.wrap n2))
  (m7 : Nat) (e_m7 : m7 = (wsV l1 [UInt8.ofNat (Int.toNat 37)] x.v))
  (l8 : List UInt8) (e_l8 : l8 = ((Bld.mk (AVal.ptr (Oid.hp 0) 0) (bfB 2 (l1.append [UInt8.ofNat (Int.toNat 37)]) m7)
      (x.rows.append [[AVal.int IntKind.u8 (↑(UInt8.ofNat (Int.toNat 37)).toNat : Int)]]) m7).t))
  (l9 : List UInt8) (e_l9 : l9 = (X n6 2))
  (m10 : Nat) (e_m10 : m10 = (wsV l8 l9 m7)) : lturn Tryd.prog (layWe0 X M R) (wrFH 161 E) 156 3 [0,1,5,8,9] [] [5] [] (stL 29 [0,1,5,8,9] [.str s, .func 161 [], .ptr (.hp 0) 0, .int .i64 n, .int .i64 i] [] [] (b0H.mk x).heap D) k = (
  bif decide (i < n) then
  bif decide (0 ≤ i ∧ i < (↑s.length : Int) ∧ s.length ≤ 1099511627776) then
  bif M s i then
  bif c0 then
  bif
  tst
  ((Bld.can 0 2 (Bld.mk x.ad x.b x.rows x.v) ∧ l1.length ≤ 1073741824) ∧
  SubL [AVal.ptr (Oid.hp 0) 0, AVal.int IntKind.u8 n2]
  [AVal.ptr (Oid.hp 0) 0, AVal.int IntKind.u8 (↑v3.toNat : Int)] ∧
  (b0H.mk x).heap = (b0H.mk (Bld.mk x.ad x.b x.rows x.v)).heap) then
  k AExit.normal
  (stL 29 [0, 1, 5, 8, 9]
  [AVal.str s, AVal.func 161 [], AVal.ptr (Oid.hp 0) 0, AVal.int IntKind.i64 n,
  AVal.int IntKind.i64 (IntKind.i64.wrap (i + 1))]
  [] []
  (b0H.mk
  (Bld.mk (AVal.ptr (Oid.hp 0) 0) (bfB 2 (l1.append l4) m5)
  (x.rows.append [[AVal.int IntKind.u8 (↑v3.toNat : Int)]]) m5)).heap
  D)
  else none
  else none
  else
  bif
  tst
  ((Bld.can 0 2 (Bld.mk x.ad x.b x.rows x.v) ∧ l1.length ≤ 1073741824) ∧
  SubL [AVal.ptr (Oid.hp 0) 0, AVal.int IntKind.u8 37]
  [AVal.ptr (Oid.hp 0) 0, AVal.int IntKind.u8 (↑(UInt8.ofNat (Int.toNat 37)).toNat : Int)] ∧
  (b0H.mk x).heap = (b0H.mk (Bld.mk x.ad x.b x.rows x.v)).heap) then
  bif c0 then
  bif decide (0 ≤ n6 ∧ ((2 : Int) = 2 ∧ n6 ≤ 255 ∨ (2 : Int) = 4 ∧ n6 ≤ 65535)) then
  bif
  tst
  ((Bld.can 0 2
  (Bld.mk (AVal.ptr (Oid.hp 0) 0) (bfB 2 (l1.append [UInt8.ofNat (Int.toNat 37)]) m7)
  (x.rows.append [[AVal.int IntKind.u8 (↑(UInt8.ofNat (Int.toNat 37)).toNat : Int)]]) m7) ∧
  l8.length + l9.length ≤ 1099511627776) ∧
  SubL [AVal.ptr (Oid.hp 0) 0, AVal.str l9] [AVal.ptr (Oid.hp 0) 0, AVal.str l9] ∧
  (b0H.mk
  (Bld.mk (AVal.ptr (Oid.hp 0) 0) (bfB 2 (l1.append [UInt8.ofNat (Int.toNat 37)]) m7)
  (x.rows.append [[AVal.int IntKind.u8 (↑(UInt8.ofNat (Int.toNat 37)).toNat : Int)]])
  m7)).heap =
  (b0H.mk
  (Bld.mk (AVal.ptr (Oid.hp 0) 0) (bfB 2 (l1.append [UInt8.ofNat (Int.toNat 37)]) m7)
  (x.rows.append [[AVal.int IntKind.u8 (↑(UInt8.ofNat (Int.toNat 37)).toNat : Int)]])
  m7)).heap) then
  k AExit.normal
  (stL 29 [0, 1, 5, 8, 9]
  [AVal.str s, AVal.func 161 [], AVal.ptr (Oid.hp 0) 0, AVal.int IntKind.i64 n,
  AVal.int IntKind.i64 (IntKind.i64.wrap (i + 1))]
  [] []
  (b0H.mk
  (Bld.mk (AVal.ptr (Oid.hp 0) 0) (bfB 2 (l8.append l9) m10)
  ((x.rows.append [[AVal.int IntKind.u8 (↑(UInt8.ofNat (Int.toNat 37)).toNat : Int)]]).append
  (List.map (fun (c : UInt8) => [AVal.int IntKind.u8 (↑c.toNat : Int)]) l9))
  m10)).heap
  D)
  else none
  else none
  else none
  else none
  else none
  else k (AExit.exit 0) (stL 29 [5] [AVal.ptr (Oid.hp 0) 0] [] [] (b0H.mk x).heap D)) := by
  subst e_c0 e_l1 e_n2 e_v3 e_l4 e_m5 e_n6 e_m7 e_l8 e_l9 e_m10
  kernel_rfl
noncomputable def layWn (X : Int → Int → List UInt8) (M : List UInt8 → Int → Bool) (R : List UInt8 → List UInt8) (E : Bld → List UInt8 → Bld) : Lay := (layWn0 X M R).addL 156 (wrFH 157 E)
noncomputable def layWe (X : Int → Int → List UInt8) (M : List UInt8 → Int → Bool) (R : List UInt8 → List UInt8) (E : Bld → List UInt8 → Bld) : Lay := (layWe0 X M R).addL 156 (wrFH 161 E)
theorem norm_fun (X : Int → Int → List UInt8) (M : List UInt8 → Int → Bool) (R : List UInt8 → List UInt8) (E : Bld → List UInt8 → Bld) (s : List UInt8) (k : Out → Ans) (l0 : List UInt8) (e_l0 : l0 = ((Bld.mk (E (Bld.mk AVal.nilptr AVal.nilX [] 0) (R s)).ad (E (Bld.mk AVal.nilptr AVal.nilX [] 0) (R s)).b
      (E (Bld.mk AVal.nilptr AVal.nilX [] 0) (R s)).rows (E (Bld.mk AVal.nilptr AVal.nilX [] 0) (R s)).v).t)) : iFun Tryd.prog ((layWn X M R E).hd Tryd.prog) (layWn X M R E).fhs 0 99 [.str s] [] k = (
  bif decide (s.length ≤ 17592186044416) then
    bif
        tst
          ((Bld.can 0 2 (Bld.mk AVal.nilptr AVal.nilX [] 0) ∧ 0 = 0 ∧ Int.toNat 0 = 0 ∧ (R s).length ≤ 268435456) ∧
            SubTL
                [AVal.str (R s), AVal.func 157 [], AVal.ptr (Oid.hp 0) 0, AVal.int IntKind.i64 (↑(R s).length : Int),
                  AVal.int IntKind.i64 0]
                [AVal.str (R s), AVal.func 157 [], AVal.ptr (Oid.hp 0) 0, AVal.int IntKind.i64 (↑(R s).length : Int),
                  AVal.int IntKind.i64 (↑(Int.toNat 0) : Int)] ∧
              ([] : List (List AVal)) = [] ∧
                [Obj.var [AVal.nilptr, AVal.nilX], Obj.note 98 2, Obj.arr 1 [] 0, Obj.note 5 0] =
                  (b0H.mk (Bld.mk AVal.nilptr AVal.nilX [] 0)).heap) then
      bif
          tst
            ((Bld.can 0 2
                  (Bld.mk (E (Bld.mk AVal.nilptr AVal.nilX [] 0) (R s)).ad (E (Bld.mk AVal.nilptr AVal.nilX [] 0) (R s)).b
                    (E (Bld.mk AVal.nilptr AVal.nilX [] 0) (R s)).rows (E (Bld.mk AVal.nilptr AVal.nilX [] 0) (R s)).v) ∧
                l0.length ≤ 1099511627776) ∧
              SubL [AVal.ptr (Oid.hp 0) 0] [AVal.ptr (Oid.hp 0) 0] ∧
                (b0H.mk (E (Bld.mk AVal.nilptr AVal.nilX [] 0) (R s))).heap =
                  (b0H.mk
                      (Bld.mk (E (Bld.mk AVal.nilptr AVal.nilX [] 0) (R s)).ad
                        (E (Bld.mk AVal.nilptr AVal.nilX [] 0) (R s)).b (E (Bld.mk AVal.nilptr AVal.nilX [] 0) (R s)).rows
                        (E (Bld.mk AVal.nilptr AVal.nilX [] 0) (R s)).v)).heap) then
        k (Out.ret (AVal.str l0) [])
      else none
    else none
  else none) := by
  subst e_l0
  kernel_rfl
theorem penc_fun (X : Int → Int → List UInt8) (M : List UInt8 → Int → Bool) (R : List UInt8 → List UInt8) (E : Bld → List UInt8 → Bld) (s : List UInt8) (k : Out → Ans) (l0 : List UInt8) (e_l0 : l0 = ((Bld.mk (E (Bld.mk AVal.nilptr AVal.nilX [] 0) (R s)).ad (E (Bld.mk AVal.nilptr AVal.nilX [] 0) (R s)).b
      (E (Bld.mk AVal.nilptr AVal.nilX [] 0) (R s)).rows (E (Bld.mk AVal.nilptr AVal.nilX [] 0) (R s)).v).t)) : iFun Tryd.prog ((layWe X M R E).hd Tryd.prog) (layWe X M R E).fhs 0 100 [.str s] [] k = (
  bif decide (s.length ≤ 17592186044416) then
    bif
        tst
          ((Bld.can 0 2 (Bld.mk AVal.nilptr AVal.nilX [] 0) ∧ 0 = 0 ∧ Int.toNat 0 = 0 ∧ (R s).length ≤ 268435456) ∧
            SubTL
                [AVal.str (R s), AVal.func 161 [], AVal.ptr (Oid.hp 0) 0, AVal.int IntKind.i64 (↑(R s).length : Int),
                  AVal.int IntKind.i64 0]
                [AVal.str (R s), AVal.func 161 [], AVal.ptr (Oid.hp 0) 0, AVal.int IntKind.i64 (↑(R s).length : Int),
                  AVal.int IntKind.i64 (↑(Int.toNat 0) : Int)] ∧
              ([] : List (List AVal)) = [] ∧
                [Obj.var [AVal.nilptr, AVal.nilX], Obj.note 98 2, Obj.arr 1 [] 0, Obj.note 5 0] =
                  (b0H.mk (Bld.mk AVal.nilptr AVal.nilX [] 0)).heap) then
      bif
          tst
            ((Bld.can 0 2
                  (Bld.mk (E (Bld.mk AVal.nilptr AVal.nilX [] 0) (R s)).ad (E (Bld.mk AVal.nilptr AVal.nilX [] 0) (R s)).b
                    (E (Bld.mk AVal.nilptr AVal.nilX [] 0) (R s)).rows (E (Bld.mk AVal.nilptr AVal.nilX [] 0) (R s)).v) ∧
                l0.length ≤ 1099511627776) ∧
              SubL [AVal.ptr (Oid.hp 0) 0] [AVal.ptr (Oid.hp 0) 0] ∧
                (b0H.mk (E (Bld.mk AVal.nilptr AVal.nilX [] 0) (R s))).heap =
                  (b0H.mk
                      (Bld.mk (E (Bld.mk AVal.nilptr AVal.nilX [] 0) (R s)).ad
                        (E (Bld.mk AVal.nilptr AVal.nilX [] 0) (R s)).b (E (Bld.mk AVal.nilptr AVal.nilX [] 0) (R s)).rows
                        (E (Bld.mk AVal.nilptr AVal.nilX [] 0) (R s)).v)).heap) then
        k (Out.ret (AVal.str l0) [])
      else none
    else none
  else none) := by
  subst e_l0
  kernel_rfl
/- Quote -/
noncomputable def layPl : Lay := Lay.nil.addF 57 ibTold
theorem pln_fun (n : Int) (k : Out → Ans) : iFun Tryd.prog (layPl.hd Tryd.prog) layPl.fhs 0 154 [.int .i64 n] [] k = (
 let n0 : Int := IntKind.u8.wrap (↑(BitVec.ofInt 8 (IntKind.u8.wrap n) ||| BitVec.ofInt 8 32).toNat : Int);
  k
  (Out.ret
  (AVal.bool
  (bif decide (n < 128) then
  bif
  bif bif decide (n0 ≥ 97) then decide (n0 ≤ 122) else false then true
  else bif decide (n ≥ 48) then decide (n ≤ 57) else false then
  true
  else decide (ibM [32, 95, 46, 44] (IntKind.u8.wrap n) ≥ 0)
  else false))
      [])) := by kernel_rfl
def plnTold (Q : Int → Bool) : FSp := mkFS [.i .i64] (fun xs => true) (fun xs k => k (.ret (.bool (Q (aI xs 0))) []))
def ucRow (c : Int) : List AVal := [.int .i64 c]
def uchTold (C : List UInt8 → List Int) : FSp := mkFS [.s] (fun xs => decide ((aS xs 0).length ≤ 1099511627776)) (fun xs k => k (.ret (encL false ucRow 0 (C (aS xs 0))) []))
noncomputable def layLq0 (X : Int → Int → List UInt8) (Q : Int → Bool) (C : List UInt8 → List Int) : Lay := b0_lay (((Lay.nil.addF 204 (hexTold X)).addF 154 (plnTold Q)).addF 153 (uchTold C))
def okUc (l : List Int) : Prop := ∀ c ∈ l, 0 ≤ c ∧ c ≤ 1114111
noncomputable def lqSp (E : Bld → List Int → Bld) : LSp := mkL (fun vs _ H => (bld H 0 2, decL (fun r => intOf (r.getD 0 .undef)) (vs.getD 1 .undef), (aI vs 3).toNat, fullOf (vs.getD 1 .undef))) (fun x => x.1.can 0 2 ∧ x.1.t.length = 1 ∧ x.2.2.1 = 0 ∧ x.2.1.length ≤ 67108864 ∧ okUc x.2.1) (fun x => [.ptr (.hp 0) 0, encL x.2.2.2 ucRow 0 x.2.1, .int .i64 x.2.1.length, .int .i64 x.2.2.1]) (fun _ => []) (fun x => (b0H.mk x.1).heap)
  (fun x k => k (.exit 0) [.ptr (.hp 0) 0] [] (b0H.mk (E x.1 x.2.1)).heap)
noncomputable def lqFH (E : Bld → List Int → Bld) : FH := { FH.of [(4, loopSpec 38 [3,8,9,10] [] [3] [] (lqSp E))] with heap := [3], typed := [(3, [(0, bT)])], exact := true }
theorem lq_step (X : Int → Int → List UInt8) (Q : Int → Bool) (C : List UInt8 → List Int) (E : Bld → List Int → Bld) (x : Bld) (f : Bool) (l : List Int) (n i : Int) (D : List (FuncId × List AVal)) (k : Kont) (n0 : Int) (e_n0 : n0 = (l.getD i.toNat 0))
  (l1 : List UInt8) (e_l1 : l1 = ((Bld.mk x.ad x.b x.rows x.v).t))
  (m2 : Nat) (e_m2 : m2 = (l1.length))
  (n3 : Int) (e_n3 : n3 = (IntKind.u8.wrap n0))
  (v4 : UInt8) (e_v4 : v4 = (UInt8.ofNat n3.toNat))
  (l5 : List UInt8) (e_l5 : l5 = ([v4]))
  (m6 : Nat) (e_m6 : m6 = (wsV l1 l5 x.v))
  (c7 : Bool) (e_c7 : c7 = (tst
    ((Bld.can 0 2 (Bld.mk x.ad x.b x.rows x.v) ∧ m2 + 2 ≤ 1099511627776) ∧
      SubL [AVal.ptr (Oid.hp 0) 0, AVal.str [92, 117]] [AVal.ptr (Oid.hp 0) 0, AVal.str [92, 117]] ∧
        (b0H.mk x).heap = (b0H.mk (Bld.mk x.ad x.b x.rows x.v)).heap)))
  (n8 : Int) (e_n8 : n8 = (IntKind.i64.wrap (n0 - 65536)))
  (n9 : Int) (e_n9 : n9 = (IntKind.i64.wrap (55296 + n8.fdiv 1024)))
  (m10 : Nat) (e_m10 : m10 = (wsV l1 [92, 117] x.v))
  (l11 : List UInt8) (e_l11 : l11 = ((Bld.mk (AVal.ptr (Oid.hp 0) 0) (bfB 2 (l1.append [92, 117]) m10)
      (x.rows.append [[AVal.int IntKind.u8 92], [AVal.int IntKind.u8 117]]) m10).t))
  (m12 : Nat) (e_m12 : m12 = (l11.length))
  (l13 : List UInt8) (e_l13 : l13 = (X n9 4))
  (m14 : Nat) (e_m14 : m14 = (wsV l11 l13 m10))
  (l15 : List UInt8) (e_l15 : l15 = ((Bld.mk (AVal.ptr (Oid.hp 0) 0) (bfB 2 (l11.append l13) m14)
      ((x.rows.append [[AVal.int IntKind.u8 92], [AVal.int IntKind.u8 117]]).append
        (List.map (fun (c : UInt8) => [AVal.int IntKind.u8 (↑c.toNat : Int)]) l13))
      m14).t))
  (n16 : Int) (e_n16 : n16 = (IntKind.i64.wrap (56320 + IntKind.i64.wrap (↑(BitVec.ofInt 64 n8 &&& BitVec.ofInt 64 1023).toNat : Int))))
  (m17 : Nat) (e_m17 : m17 = (wsV l15 [92, 117] m14))
  (l18 : List UInt8) (e_l18 : l18 = ((Bld.mk (AVal.ptr (Oid.hp 0) 0) (bfB 2 (l15.append [92, 117]) m17)
      (((x.rows.append [[AVal.int IntKind.u8 92], [AVal.int IntKind.u8 117]]).append
            (List.map (fun (c : UInt8) => [AVal.int IntKind.u8 (↑c.toNat : Int)]) l13)).append
        [[AVal.int IntKind.u8 92], [AVal.int IntKind.u8 117]])
      m17).t))
  (l19 : List UInt8) (e_l19 : l19 = (X n16 4))
  (m20 : Nat) (e_m20 : m20 = (wsV l18 l19 m17))
  (l21 : List UInt8) (e_l21 : l21 = (X n0 4))
  (m22 : Nat) (e_m22 : m22 = (wsV l11 l21 m10)) : lturn Tryd.prog (layLq0 X Q C) (lqFH E) 96 4 [3,8,9,10] [] [3] [] (stL 38 [3,8,9,10] [.ptr (.hp 0) 0, encL f ucRow 0 l, .int .i64 n, .int .i64 i] [] [] (b0H.mk x).heap D) k = (
  bif decide (i < n) then
  bif decide (0 ≤ i) && decide (i < (↑l.length : Int)) then
  bif Q n0 then
  bif
  tst
  ((Bld.can 0 2 (Bld.mk x.ad x.b x.rows x.v) ∧ m2 ≤ 1073741824) ∧
  SubL [AVal.ptr (Oid.hp 0) 0, AVal.int IntKind.u8 n3]
  [AVal.ptr (Oid.hp 0) 0, AVal.int IntKind.u8 (↑v4.toNat : Int)] ∧
  (b0H.mk x).heap = (b0H.mk (Bld.mk x.ad x.b x.rows x.v)).heap) then
  k AExit.normal
  (stL 38 [3, 8, 9, 10]
  [AVal.ptr (Oid.hp 0) 0, AVal.list f l.length fun (i : Nat) => ucRow (l.getD i 0), AVal.int IntKind.i64 n,
  AVal.int IntKind.i64 (IntKind.i64.wrap (i + 1))]
  [] []
  (b0H.mk
  (Bld.mk (AVal.ptr (Oid.hp 0) 0) (bfB 2 (l1.append l5) m6)
  (x.rows.append [[AVal.int IntKind.u8 (↑v4.toNat : Int)]]) m6)).heap
  D)
  else none
  else
  bif decide (n0 > 65535) then
  bif c7 then
  bif decide (0 ≤ n9 ∧ ((4 : Int) = 2 ∧ n9 ≤ 255 ∨ (4 : Int) = 4 ∧ n9 ≤ 65535)) then
  bif
  tst
  ((Bld.can 0 2
  (Bld.mk (AVal.ptr (Oid.hp 0) 0) (bfB 2 (l1.append [92, 117]) m10)
  (x.rows.append [[AVal.int IntKind.u8 92], [AVal.int IntKind.u8 117]]) m10) ∧
  m12 + l13.length ≤ 1099511627776) ∧
  SubL [AVal.ptr (Oid.hp 0) 0, AVal.str l13] [AVal.ptr (Oid.hp 0) 0, AVal.str l13] ∧
  (b0H.mk
  (Bld.mk (AVal.ptr (Oid.hp 0) 0) (bfB 2 (l1.append [92, 117]) m10)
  (x.rows.append [[AVal.int IntKind.u8 92], [AVal.int IntKind.u8 117]]) m10)).heap =
  (b0H.mk
  (Bld.mk (AVal.ptr (Oid.hp 0) 0) (bfB 2 (l1.append [92, 117]) m10)
  (x.rows.append [[AVal.int IntKind.u8 92], [AVal.int IntKind.u8 117]]) m10)).heap) then
  bif
  tst
  ((Bld.can 0 2
  (Bld.mk (AVal.ptr (Oid.hp 0) 0) (bfB 2 (l11.append l13) m14)
  ((x.rows.append [[AVal.int IntKind.u8 92], [AVal.int IntKind.u8 117]]).append
  (List.map (fun (c : UInt8) => [AVal.int IntKind.u8 (↑c.toNat : Int)]) l13))
  m14) ∧
  l15.length + 2 ≤ 1099511627776) ∧
  SubL [AVal.ptr (Oid.hp 0) 0, AVal.str [92, 117]] [AVal.ptr (Oid.hp 0) 0, AVal.str [92, 117]] ∧
  (b0H.mk
  (Bld.mk (AVal.ptr (Oid.hp 0) 0) (bfB 2 (l11.append l13) m14)
  ((x.rows.append [[AVal.int IntKind.u8 92], [AVal.int IntKind.u8 117]]).append
  (List.map (fun (c : UInt8) => [AVal.int IntKind.u8 (↑c.toNat : Int)]) l13))
  m14)).heap =
  (b0H.mk
  (Bld.mk (AVal.ptr (Oid.hp 0) 0) (bfB 2 (l11.append l13) m14)
  ((x.rows.append [[AVal.int IntKind.u8 92], [AVal.int IntKind.u8 117]]).append
  (List.map (fun (c : UInt8) => [AVal.int IntKind.u8 (↑c.toNat : Int)]) l13))
  m14)).heap) then
  bif decide (0 ≤ n16 ∧ ((4 : Int) = 2 ∧ n16 ≤ 255 ∨ (4 : Int) = 4 ∧ n16 ≤ 65535)) then
  bif
  tst
  ((Bld.can 0 2
  (Bld.mk (AVal.ptr (Oid.hp 0) 0) (bfB 2 (l15.append [92, 117]) m17)
  (((x.rows.append [[AVal.int IntKind.u8 92], [AVal.int IntKind.u8 117]]).append
  (List.map (fun (c : UInt8) => [AVal.int IntKind.u8 (↑c.toNat : Int)]) l13)).append
  [[AVal.int IntKind.u8 92], [AVal.int IntKind.u8 117]])
  m17) ∧
  l18.length + l19.length ≤ 1099511627776) ∧
  SubL [AVal.ptr (Oid.hp 0) 0, AVal.str l19] [AVal.ptr (Oid.hp 0) 0, AVal.str l19] ∧
  (b0H.mk
  (Bld.mk (AVal.ptr (Oid.hp 0) 0) (bfB 2 (l15.append [92, 117]) m17)
  (((x.rows.append [[AVal.int IntKind.u8 92], [AVal.int IntKind.u8 117]]).append
  (List.map (fun (c : UInt8) => [AVal.int IntKind.u8 (↑c.toNat : Int)])
  l13)).append
  [[AVal.int IntKind.u8 92], [AVal.int IntKind.u8 117]])
  m17)).heap =
  (b0H.mk
  (Bld.mk (AVal.ptr (Oid.hp 0) 0) (bfB 2 (l15.append [92, 117]) m17)
  (((x.rows.append [[AVal.int IntKind.u8 92], [AVal.int IntKind.u8 117]]).append
  (List.map (fun (c : UInt8) => [AVal.int IntKind.u8 (↑c.toNat : Int)])
  l13)).append
  [[AVal.int IntKind.u8 92], [AVal.int IntKind.u8 117]])
  m17)).heap) then
  k AExit.normal
  (stL 38 [3, 8, 9, 10]
  [AVal.ptr (Oid.hp 0) 0, AVal.list f l.length fun (i : Nat) => ucRow (l.getD i 0),
  AVal.int IntKind.i64 n, AVal.int IntKind.i64 (IntKind.i64.wrap (i + 1))]
  [] []
  (b0H.mk
  (Bld.mk (AVal.ptr (Oid.hp 0) 0) (bfB 2 (l18.append l19) m20)
  ((((x.rows.append [[AVal.int IntKind.u8 92], [AVal.int IntKind.u8 117]]).append
  (List.map (fun (c : UInt8) => [AVal.int IntKind.u8 (↑c.toNat : Int)])
  l13)).append
  [[AVal.int IntKind.u8 92], [AVal.int IntKind.u8 117]]).append
  (List.map (fun (c : UInt8) => [AVal.int IntKind.u8 (↑c.toNat : Int)]) l19))
  m20)).heap
  D)
  else none
  else none
  else none
  else none
  else none
  else none
  else
  bif c7 then
  bif decide (0 ≤ n0 ∧ ((4 : Int) = 2 ∧ n0 ≤ 255 ∨ (4 : Int) = 4 ∧ n0 ≤ 65535)) then
  bif
  tst
  ((Bld.can 0 2
  (Bld.mk (AVal.ptr (Oid.hp 0) 0) (bfB 2 (l1.append [92, 117]) m10)
  (x.rows.append [[AVal.int IntKind.u8 92], [AVal.int IntKind.u8 117]]) m10) ∧
  m12 + l21.length ≤ 1099511627776) ∧
  SubL [AVal.ptr (Oid.hp 0) 0, AVal.str l21] [AVal.ptr (Oid.hp 0) 0, AVal.str l21] ∧
  (b0H.mk
  (Bld.mk (AVal.ptr (Oid.hp 0) 0) (bfB 2 (l1.append [92, 117]) m10)
  (x.rows.append [[AVal.int IntKind.u8 92], [AVal.int IntKind.u8 117]]) m10)).heap =
  (b0H.mk
  (Bld.mk (AVal.ptr (Oid.hp 0) 0) (bfB 2 (l1.append [92, 117]) m10)
  (x.rows.append [[AVal.int IntKind.u8 92], [AVal.int IntKind.u8 117]]) m10)).heap) then
  k AExit.normal
  (stL 38 [3, 8, 9, 10]
  [AVal.ptr (Oid.hp 0) 0, AVal.list f l.length fun (i : Nat) => ucRow (l.getD i 0),
  AVal.int IntKind.i64 n, AVal.int IntKind.i64 (IntKind.i64.wrap (i + 1))]
  [] []
  (b0H.mk
  (Bld.mk (AVal.ptr (Oid.hp 0) 0) (bfB 2 (l11.append l21) m22)
  ((x.rows.append [[AVal.int IntKind.u8 92], [AVal.int IntKind.u8 117]]).append
  (List.map (fun (c : UInt8) => [AVal.int IntKind.u8 (↑c.toNat : Int)]) l21))
  m22)).heap
  D)
  else none
  else none
  else none
  else none
  else k (AExit.exit 0) (stL 38 [3] [AVal.ptr (Oid.hp 0) 0] [] [] (b0H.mk x).heap D)) := by
  subst e_n0 e_l1 e_m2 e_n3 e_v4 e_l5 e_m6 e_c7 e_n8 e_n9 e_m10 e_l11 e_m12 e_l13 e_m14 e_l15 e_n16 e_m17 e_l18 e_l19 e_m20 e_l21 e_m22
  kernel_rfl
noncomputable def layLq (X : Int → Int → List UInt8) (Q : Int → Bool) (C : List UInt8 → List Int) (E : Bld → List Int → Bld) : Lay := (layLq0 X Q C).addL 96 (lqFH E)
theorem lquote_fun (X : Int → Int → List UInt8) (Q : Int → Bool) (C : List UInt8 → List Int) (E : Bld → List Int → Bld) (s : List UInt8) (k : Out → Ans) (m0 : Nat) (e_m0 : m0 = ((decL (fun (r : List AVal) => intOf (r.getD 0 AVal.undef))
      (AVal.list false (C s).length fun (i : Nat) => ucRow ((C s).getD i 0))).length))
  (m1 : Nat) (e_m1 : m1 = ((E
      (Bld.mk (AVal.ptr (Oid.hp 0) 0)
        (AVal.own 2 0 1 (wsV (Bld.mk AVal.nilptr AVal.nilX [] 0).t [UInt8.ofNat (Int.toNat 34)] 0) false)
        [[AVal.int IntKind.u8 (↑(UInt8.ofNat (Int.toNat 34)).toNat : Int)]]
        (wsV (Bld.mk AVal.nilptr AVal.nilX [] 0).t [UInt8.ofNat (Int.toNat 34)] 0))
      (decL (fun (r : List AVal) => intOf (r.getD 0 AVal.undef))
        (AVal.list false (C s).length fun (i : Nat) => ucRow ((C s).getD i 0)))).v))
  (l2 : List UInt8) (e_l2 : l2 = ((Bld.mk
      (E
          (Bld.mk (AVal.ptr (Oid.hp 0) 0)
            (AVal.own 2 0 1 (wsV (Bld.mk AVal.nilptr AVal.nilX [] 0).t [UInt8.ofNat (Int.toNat 34)] 0) false)
            [[AVal.int IntKind.u8 (↑(UInt8.ofNat (Int.toNat 34)).toNat : Int)]]
            (wsV (Bld.mk AVal.nilptr AVal.nilX [] 0).t [UInt8.ofNat (Int.toNat 34)] 0))
          (decL (fun (r : List AVal) => intOf (r.getD 0 AVal.undef))
            (AVal.list false (C s).length fun (i : Nat) => ucRow ((C s).getD i 0)))).ad
      (E
          (Bld.mk (AVal.ptr (Oid.hp 0) 0)
            (AVal.own 2 0 1 (wsV (Bld.mk AVal.nilptr AVal.nilX [] 0).t [UInt8.ofNat (Int.toNat 34)] 0) false)
            [[AVal.int IntKind.u8 (↑(UInt8.ofNat (Int.toNat 34)).toNat : Int)]]
            (wsV (Bld.mk AVal.nilptr AVal.nilX [] 0).t [UInt8.ofNat (Int.toNat 34)] 0))
          (decL (fun (r : List AVal) => intOf (r.getD 0 AVal.undef))
            (AVal.list false (C s).length fun (i : Nat) => ucRow ((C s).getD i 0)))).b
      (E
          (Bld.mk (AVal.ptr (Oid.hp 0) 0)
            (AVal.own 2 0 1 (wsV (Bld.mk AVal.nilptr AVal.nilX [] 0).t [UInt8.ofNat (Int.toNat 34)] 0) false)
            [[AVal.int IntKind.u8 (↑(UInt8.ofNat (Int.toNat 34)).toNat : Int)]]
            (wsV (Bld.mk AVal.nilptr AVal.nilX [] 0).t [UInt8.ofNat (Int.toNat 34)] 0))
          (decL (fun (r : List AVal) => intOf (r.getD 0 AVal.undef))
            (AVal.list false (C s).length fun (i : Nat) => ucRow ((C s).getD i 0)))).rows
      m1).t))
  (m3 : Nat) (e_m3 : m3 = (wsV l2 [UInt8.ofNat (Int.toNat 34)] m1))
  (l4 : List UInt8) (e_l4 : l4 = ((Bld.mk (AVal.ptr (Oid.hp 0) 0) (bfB 2 (l2.append [UInt8.ofNat (Int.toNat 34)]) m3)
      ((E
              (Bld.mk (AVal.ptr (Oid.hp 0) 0)
                (AVal.own 2 0 1 (wsV (Bld.mk AVal.nilptr AVal.nilX [] 0).t [UInt8.ofNat (Int.toNat 34)] 0) false)
                [[AVal.int IntKind.u8 (↑(UInt8.ofNat (Int.toNat 34)).toNat : Int)]]
                (wsV (Bld.mk AVal.nilptr AVal.nilX [] 0).t [UInt8.ofNat (Int.toNat 34)] 0))
              (decL (fun (r : List AVal) => intOf (r.getD 0 AVal.undef))
                (AVal.list false (C s).length fun (i : Nat) => ucRow ((C s).getD i 0)))).rows.append
        [[AVal.int IntKind.u8 (↑(UInt8.ofNat (Int.toNat 34)).toNat : Int)]])
      m3).t)) : iFun Tryd.prog ((layLq X Q C E).hd Tryd.prog) (layLq X Q C E).fhs 0 96 [.str s] [] k = (
  bif
      tst
        ((Bld.can 0 2 (Bld.mk AVal.nilptr AVal.nilX [] 0) ∧ 0 ≤ 1073741824) ∧
          SubL [AVal.ptr (Oid.hp 0) 0, AVal.int IntKind.u8 34]
              [AVal.ptr (Oid.hp 0) 0, AVal.int IntKind.u8 (↑(UInt8.ofNat (Int.toNat 34)).toNat : Int)] ∧
            [Obj.var [AVal.nilptr, AVal.nilX], Obj.note 98 2, Obj.arr 1 [] 0, Obj.note 5 0] =
              (b0H.mk (Bld.mk AVal.nilptr AVal.nilX [] 0)).heap) then
    bif decide (s.length ≤ 1099511627776) then
      bif
          tst
            ((Bld.can 0 2
                  (Bld.mk (AVal.ptr (Oid.hp 0) 0)
                    (AVal.own 2 0 1 (wsV (Bld.mk AVal.nilptr AVal.nilX [] 0).t [UInt8.ofNat (Int.toNat 34)] 0) false)
                    [[AVal.int IntKind.u8 (↑(UInt8.ofNat (Int.toNat 34)).toNat : Int)]]
                    (wsV (Bld.mk AVal.nilptr AVal.nilX [] 0).t [UInt8.ofNat (Int.toNat 34)] 0)) ∧
                1 = 1 ∧
                  Int.toNat 0 = 0 ∧
                    m0 ≤ 67108864 ∧
                      okUc
                        (decL (fun (r : List AVal) => intOf (r.getD 0 AVal.undef))
                          (AVal.list false (C s).length fun (i : Nat) => ucRow ((C s).getD i 0)))) ∧
              SubTL
                  [AVal.ptr (Oid.hp 0) 0, AVal.list false (C s).length fun (i : Nat) => ucRow ((C s).getD i 0),
                    AVal.int IntKind.i64 (↑(C s).length : Int), AVal.int IntKind.i64 0]
                  [AVal.ptr (Oid.hp 0) 0,
                    AVal.list false m0 fun (i : Nat) =>
                      ucRow
                        ((decL (fun (r : List AVal) => intOf (r.getD 0 AVal.undef))
                              (AVal.list false (C s).length fun (i : Nat) => ucRow ((C s).getD i 0))).getD
                          i 0),
                    AVal.int IntKind.i64 (↑m0 : Int), AVal.int IntKind.i64 (↑(Int.toNat 0) : Int)] ∧
                ([] : List (List AVal)) = [] ∧
                  (b0H.mk
                        (Bld.mk (AVal.ptr (Oid.hp 0) 0)
                          (bfB 2 [UInt8.ofNat (Int.toNat 34)]
                            (wsV (Bld.mk AVal.nilptr AVal.nilX [] 0).t [UInt8.ofNat (Int.toNat 34)] 0))
                          [[AVal.int IntKind.u8 (↑(UInt8.ofNat (Int.toNat 34)).toNat : Int)]]
                          (wsV (Bld.mk AVal.nilptr AVal.nilX [] 0).t [UInt8.ofNat (Int.toNat 34)] 0))).heap =
                    (b0H.mk
                        (Bld.mk (AVal.ptr (Oid.hp 0) 0)
                          (AVal.own 2 0 1 (wsV (Bld.mk AVal.nilptr AVal.nilX [] 0).t [UInt8.ofNat (Int.toNat 34)] 0)
                            false)
                          [[AVal.int IntKind.u8 (↑(UInt8.ofNat (Int.toNat 34)).toNat : Int)]]
                          (wsV (Bld.mk AVal.nilptr AVal.nilX [] 0).t [UInt8.ofNat (Int.toNat 34)] 0))).heap) then
        bif
            tst
              ((Bld.can 0 2
                    (Bld.mk
                      (E
                          (Bld.mk (AVal.ptr (Oid.hp 0) 0)
                            (AVal.own 2 0 1 (wsV (Bld.mk AVal.nilptr AVal.nilX [] 0).t [UInt8.ofNat (Int.toNat 34)] 0)
                              false)
                            [[AVal.int IntKind.u8 (↑(UInt8.ofNat (Int.toNat 34)).toNat : Int)]]
                            (wsV (Bld.mk AVal.nilptr AVal.nilX [] 0).t [UInt8.ofNat (Int.toNat 34)] 0))
                          (decL (fun (r : List AVal) => intOf (r.getD 0 AVal.undef))
                            (AVal.list false (C s).length fun (i : Nat) => ucRow ((C s).getD i 0)))).ad
                      (E
                          (Bld.mk (AVal.ptr (Oid.hp 0) 0)
                            (AVal.own 2 0 1 (wsV (Bld.mk AVal.nilptr AVal.nilX [] 0).t [UInt8.ofNat (Int.toNat 34)] 0)
                              false)
                            [[AVal.int IntKind.u8 (↑(UInt8.ofNat (Int.toNat 34)).toNat : Int)]]
                            (wsV (Bld.mk AVal.nilptr AVal.nilX [] 0).t [UInt8.ofNat (Int.toNat 34)] 0))
                          (decL (fun (r : List AVal) => intOf (r.getD 0 AVal.undef))
                            (AVal.list false (C s).length fun (i : Nat) => ucRow ((C s).getD i 0)))).b
                      (E
                          (Bld.mk (AVal.ptr (Oid.hp 0) 0)
                            (AVal.own 2 0 1 (wsV (Bld.mk AVal.nilptr AVal.nilX [] 0).t [UInt8.ofNat (Int.toNat 34)] 0)
                              false)
                            [[AVal.int IntKind.u8 (↑(UInt8.ofNat (Int.toNat 34)).toNat : Int)]]
                            (wsV (Bld.mk AVal.nilptr AVal.nilX [] 0).t [UInt8.ofNat (Int.toNat 34)] 0))
                          (decL (fun (r : List AVal) => intOf (r.getD 0 AVal.undef))
                            (AVal.list false (C s).length fun (i : Nat) => ucRow ((C s).getD i 0)))).rows
                      m1) ∧
                  l2.length ≤ 1073741824) ∧
                SubL [AVal.ptr (Oid.hp 0) 0, AVal.int IntKind.u8 34]
                    [AVal.ptr (Oid.hp 0) 0, AVal.int IntKind.u8 (↑(UInt8.ofNat (Int.toNat 34)).toNat : Int)] ∧
                  (b0H.mk
                        (E
                          (Bld.mk (AVal.ptr (Oid.hp 0) 0)
                            (AVal.own 2 0 1 (wsV (Bld.mk AVal.nilptr AVal.nilX [] 0).t [UInt8.ofNat (Int.toNat 34)] 0)
                              false)
                            [[AVal.int IntKind.u8 (↑(UInt8.ofNat (Int.toNat 34)).toNat : Int)]]
                            (wsV (Bld.mk AVal.nilptr AVal.nilX [] 0).t [UInt8.ofNat (Int.toNat 34)] 0))
                          (decL (fun (r : List AVal) => intOf (r.getD 0 AVal.undef))
                            (AVal.list false (C s).length fun (i : Nat) => ucRow ((C s).getD i 0))))).heap =
                    (b0H.mk
                        (Bld.mk
                          (E
                              (Bld.mk (AVal.ptr (Oid.hp 0) 0)
                                (AVal.own 2 0 1 (wsV (Bld.mk AVal.nilptr AVal.nilX [] 0).t [UInt8.ofNat (Int.toNat 34)] 0)
                                  false)
                                [[AVal.int IntKind.u8 (↑(UInt8.ofNat (Int.toNat 34)).toNat : Int)]]
                                (wsV (Bld.mk AVal.nilptr AVal.nilX [] 0).t [UInt8.ofNat (Int.toNat 34)] 0))
                              (decL (fun (r : List AVal) => intOf (r.getD 0 AVal.undef))
                                (AVal.list false (C s).length fun (i : Nat) => ucRow ((C s).getD i 0)))).ad
                          (E
                              (Bld.mk (AVal.ptr (Oid.hp 0) 0)
                                (AVal.own 2 0 1 (wsV (Bld.mk AVal.nilptr AVal.nilX [] 0).t [UInt8.ofNat (Int.toNat 34)] 0)
                                  false)
                                [[AVal.int IntKind.u8 (↑(UInt8.ofNat (Int.toNat 34)).toNat : Int)]]
                                (wsV (Bld.mk AVal.nilptr AVal.nilX [] 0).t [UInt8.ofNat (Int.toNat 34)] 0))
                              (decL (fun (r : List AVal) => intOf (r.getD 0 AVal.undef))
                                (AVal.list false (C s).length fun (i : Nat) => ucRow ((C s).getD i 0)))).b
                          (E
                              (Bld.mk (AVal.ptr (Oid.hp 0) 0)
                                (AVal.own 2 0 1 (wsV (Bld.mk AVal.nilptr AVal.nilX [] 0).t [UInt8.ofNat (Int.toNat 34)] 0)
                                  false)
                                [[AVal.int IntKind.u8 (↑(UInt8.ofNat (Int.toNat 34)).toNat : Int)]]
                                (wsV (Bld.mk AVal.nilptr AVal.nilX [] 0).t [UInt8.ofNat (Int.toNat 34)] 0))
                              (decL (fun (r : List AVal) => intOf (r.getD 0 AVal.undef))
                                (AVal.list false (C s).length fun (i : Nat) => ucRow ((C s).getD i 0)))).rows
                          m1)).heap) then
          bif
              tst
                ((Bld.can 0 2
                      (Bld.mk (AVal.ptr (Oid.hp 0) 0) (bfB 2 (l2.append [UInt8.ofNat (Int.toNat 34)]) m3)
                        ((E
                                (Bld.mk (AVal.ptr (Oid.hp 0) 0)
                                  (AVal.own 2 0 1
                                    (wsV (Bld.mk AVal.nilptr AVal.nilX [] 0).t [UInt8.ofNat (Int.toNat 34)] 0) false)
                                  [[AVal.int IntKind.u8 (↑(UInt8.ofNat (Int.toNat 34)).toNat : Int)]]
                                  (wsV (Bld.mk AVal.nilptr AVal.nilX [] 0).t [UInt8.ofNat (Int.toNat 34)] 0))
                                (decL (fun (r : List AVal) => intOf (r.getD 0 AVal.undef))
                                  (AVal.list false (C s).length fun (i : Nat) => ucRow ((C s).getD i 0)))).rows.append
                          [[AVal.int IntKind.u8 (↑(UInt8.ofNat (Int.toNat 34)).toNat : Int)]])
                        m3) ∧
                    l4.length ≤ 1099511627776) ∧
                  SubL [AVal.ptr (Oid.hp 0) 0] [AVal.ptr (Oid.hp 0) 0] ∧
                    (b0H.mk
                          (Bld.mk (AVal.ptr (Oid.hp 0) 0) (bfB 2 (l2.append [UInt8.ofNat (Int.toNat 34)]) m3)
                            ((E
                                    (Bld.mk (AVal.ptr (Oid.hp 0) 0)
                                      (AVal.own 2 0 1
                                        (wsV (Bld.mk AVal.nilptr AVal.nilX [] 0).t [UInt8.ofNat (Int.toNat 34)] 0) false)
                                      [[AVal.int IntKind.u8 (↑(UInt8.ofNat (Int.toNat 34)).toNat : Int)]]
                                      (wsV (Bld.mk AVal.nilptr AVal.nilX [] 0).t [UInt8.ofNat (Int.toNat 34)] 0))
                                    (decL (fun (r : List AVal) => intOf (r.getD 0 AVal.undef))
                                      (AVal.list false (C s).length fun (i : Nat) => ucRow ((C s).getD i 0)))).rows.append
                              [[AVal.int IntKind.u8 (↑(UInt8.ofNat (Int.toNat 34)).toNat : Int)]])
                            m3)).heap =
                      (b0H.mk
                          (Bld.mk (AVal.ptr (Oid.hp 0) 0) (bfB 2 (l2.append [UInt8.ofNat (Int.toNat 34)]) m3)
                            ((E
                                    (Bld.mk (AVal.ptr (Oid.hp 0) 0)
                                      (AVal.own 2 0 1
                                        (wsV (Bld.mk AVal.nilptr AVal.nilX [] 0).t [UInt8.ofNat (Int.toNat 34)] 0) false)
                                      [[AVal.int IntKind.u8 (↑(UInt8.ofNat (Int.toNat 34)).toNat : Int)]]
                                      (wsV (Bld.mk AVal.nilptr AVal.nilX [] 0).t [UInt8.ofNat (Int.toNat 34)] 0))
                                    (decL (fun (r : List AVal) => intOf (r.getD 0 AVal.undef))
                                      (AVal.list false (C s).length fun (i : Nat) => ucRow ((C s).getD i 0)))).rows.append
                              [[AVal.int IntKind.u8 (↑(UInt8.ofNat (Int.toNat 34)).toNat : Int)]])
                            m3)).heap) then
            k
              (Out.ret (AVal.str l4)
                (b0H.mk
                    (Bld.mk (AVal.ptr (Oid.hp 0) 0) (bfB 2 (l2.append [UInt8.ofNat (Int.toNat 34)]) m3) []
                      (bif l4 == [] then m3 else m3 + 1))).heap)
          else none
        else none
      else none
    else none
  else none) := by
  subst e_m0 e_m1 e_l2 e_m3 e_l4
  kernel_rfl
end Go.Mu
set_option linter.unusedVariables false
set_option linter.unusedSimpArgs false
set_option maxRecDepth 100000
namespace Go.Mu
open Go Go.Proofs
end Go.Mu
set_option linter.unusedVariables false
set_option linter.unusedSimpArgs false
set_option maxRecDepth 100000
namespace Go.Mu
open Go Go.Proofs
end Go.Mu
set_option linter.unusedVariables false
set_option linter.unusedSimpArgs false
set_option maxRecDepth 100000
namespace Go.Mu
open Go Go.Proofs
theorem wrap8 (x : Int) : IntKind.u8.wrap x = x % 256 := by simp [IntKind.wrap, IntKind.signed, IntKind.bits]
def badR (n : Int) : Bool := decide (n < 0) || decide (n > 1114111) || (decide (55296 ≤ n) && decide (n ≤ 57343))
def encX (n : Int) : List UInt8 := bif badR n then [] else Lib.encodeRune n
def encXE (n : Int) : Int := bif badR n then 4 else 0
end Go.Mu
set_option linter.unusedVariables false
set_option linter.unusedSimpArgs false
set_option maxRecDepth 100000
namespace Go.Mu
open Go Go.Proofs
end Go.Mu
set_option linter.unusedVariables false
set_option linter.unusedSimpArgs false
set_option maxRecDepth 100000
namespace Go.Mu
open Go Go.Proofs
theorem rEn_fun (n : Int) (k : Out → Ans) : iFun Tryd.prog (Lay.nil.hd Tryd.prog) Lay.nil.fhs 0 105 [.int .i64 n] [] k = (
 let c0 : Bool := !(n == n && false);
 let n1 : Int := IntKind.i64.wrap (n.tdiv 64);
 let l2 : List UInt8 := [byteOf [AVal.int IntKind.u8 (IntKind.u8.wrap (IntKind.i64.wrap (128 + n.tmod 64)))]];
 let c3 : Bool := !(n1 == n1 && false);
 let n4 : Int := IntKind.i64.wrap (n.tdiv 4096);
 let l5 : List UInt8 := byteOf [AVal.int IntKind.u8 (IntKind.u8.wrap (IntKind.i64.wrap (128 + n1.tmod 64)))] :: l2;
  bif
  bif bif decide (n < 0) then true else decide (n > 1114111) then true
  else bif decide (n ≥ 55296) then decide (n ≤ 57343) else false then
  k (Out.ret (AVal.tuple [AVal.str [], AVal.int IntKind.i64 4]) [])
  else
  bif decide (n < 128) then
  k (Out.ret (AVal.tuple [AVal.str [byteOf [AVal.int IntKind.u8 (IntKind.u8.wrap n)]], AVal.int IntKind.i64 0]) [])
  else
  bif decide (n < 2048) then
  bif c0 then
  bif c0 then
  k
  (Out.ret
  (AVal.tuple
  [AVal.str (byteOf [AVal.int IntKind.u8 (IntKind.u8.wrap (IntKind.i64.wrap (192 + n1)))] :: l2),
  AVal.int IntKind.i64 0])
  [])
  else none
  else none
  else
  bif decide (n < 65536) then
  bif c0 then
  bif c0 then
  bif c3 then
  bif c0 then
  k
  (Out.ret
  (AVal.tuple
  [AVal.str (byteOf [AVal.int IntKind.u8 (IntKind.u8.wrap (IntKind.i64.wrap (224 + n4)))] :: l5),
  AVal.int IntKind.i64 0])
  [])
  else none
  else none
  else none
  else none
  else
  bif c0 then
  bif c0 then
  bif !(n4 == n4 && false) then
  bif c0 then
  bif c3 then
  bif c0 then
  k
  (Out.ret
  (AVal.tuple
  [AVal.str
  (byteOf
  [AVal.int IntKind.u8
  (IntKind.u8.wrap (IntKind.i64.wrap (240 + IntKind.i64.wrap (n.tdiv 262144))))] ::
  byteOf [AVal.int IntKind.u8 (IntKind.u8.wrap (IntKind.i64.wrap (128 + n4.tmod 64)))] ::
  l5),
  AVal.int IntKind.i64 0])
  [])
  else none
  else none
  else none
  else none
  else none
  else none) := by kernel_rfl
/- Decode -/
def encrTold (X : Int → List UInt8) (E : Int → Int) : FSp := mkFS [.i .i64] (fun xs => decide (0 ≤ aI xs 0 ∧ aI xs 0 ≤ 2147483647)) (fun xs k => k (.ret (.tuple [.str (X (aI xs 0)), .int .i64 (E (aI xs 0))]) []))
def layRd0 (X : Int → List UInt8) (E : Int → Int) : Lay := Lay.nil.addF 105 (encrTold X E)
theorem rdec_fun (X : Int → List UInt8) (E : Int → Int) (s : List UInt8) (k : Out → Ans) (n0 : Int) (e_n0 : n0 = ((↑s.length : Int)))
  (c1 : Bool) (e_c1 : c1 = (decide (0 < n0)))
  (n2 : Int) (e_n2 : n2 = ((↑(s.getD 0 0).toNat : Int)))
  (n3 : Int) (e_n3 : n3 = (IntKind.i64.wrap (↑(BitVec.ofInt 64 (IntKind.i64.wrap n2) &&& BitVec.ofInt 64 127).toNat : Int)))
  (c4 : Bool) (e_c4 : c4 = (E n3 != 0))
  (c5 : Bool) (e_c5 : c5 = (decide (1 < n0)))
  (n6 : Int) (e_n6 : n6 = ((↑(s.getD 1 0).toNat : Int)))
  (c7 : Bool) (e_c7 : c7 = (decide (n6 < 128)))
  (c8 : Bool) (e_c8 : c8 = (c5 || !!c7))
  (c9 : Bool) (e_c9 : c9 = (bif c7 then true else decide (n6 > 191)))
  (n10 : Int) (e_n10 : n10 = (IntKind.i64.wrap n6))
  (n11 : Int) (e_n11 : n11 = (IntKind.i64.wrap
    (IntKind.i64.wrap
        (IntKind.i64.wrap
            (IntKind.i64.wrap (↑(BitVec.ofInt 64 (IntKind.i64.wrap n2) &&& BitVec.ofInt 64 31).toNat : Int) * 64) +
          n10) -
      128)))
  (c12 : Bool) (e_c12 : c12 = (E n11 != 0))
  (c13 : Bool) (e_c13 : c13 = (decide (2 < n0)))
  (n14 : Int) (e_n14 : n14 = ((↑(s.getD 2 0).toNat : Int)))
  (c15 : Bool) (e_c15 : c15 = (decide (n14 < 128)))
  (c16 : Bool) (e_c16 : c16 = (c13 || !!c15))
  (c17 : Bool) (e_c17 : c17 = (bif c15 then true else decide (n14 > 191)))
  (n18 : Int) (e_n18 : n18 = (IntKind.i64.wrap n14))
  (n19 : Int) (e_n19 : n19 = (IntKind.i64.wrap
    (IntKind.i64.wrap
        (IntKind.i64.wrap
            (IntKind.i64.wrap
                (IntKind.i64.wrap
                    (IntKind.i64.wrap
                        (IntKind.i64.wrap
                            (↑(BitVec.ofInt 64 (IntKind.i64.wrap n2) &&& BitVec.ofInt 64 15).toNat : Int) *
                          64) +
                      n10) -
                  128) *
              64) +
          n18) -
      128)))
  (c20 : Bool) (e_c20 : c20 = (E n19 != 0))
  (c21 : Bool) (e_c21 : c21 = (decide (3 < n0)))
  (n22 : Int) (e_n22 : n22 = ((↑(s.getD 3 0).toNat : Int)))
  (c23 : Bool) (e_c23 : c23 = (decide (n22 < 128)))
  (n24 : Int) (e_n24 : n24 = (IntKind.i64.wrap
    (IntKind.i64.wrap
        (IntKind.i64.wrap
            (IntKind.i64.wrap
                (IntKind.i64.wrap
                    (IntKind.i64.wrap
                        (IntKind.i64.wrap
                            (IntKind.i64.wrap
                                (IntKind.i64.wrap
                                    (IntKind.i64.wrap
                                        (↑(BitVec.ofInt 64 (IntKind.i64.wrap n2) &&& BitVec.ofInt 64 7).toNat : Int) *
                                      64) +
                                  n10) -
                              128) *
                          64) +
                      n18) -
                  128) *
              64) +
          IntKind.i64.wrap n22) -
      128)))
  (c25 : Bool) (e_c25 : c25 = (E n24 != 0)) : iFun Tryd.prog ((layRd0 X E).hd Tryd.prog) (layRd0 X E).fhs 9 165 [.str s] [] k = (
  bif s == [] then k (Out.ret (AVal.tuple [AVal.int IntKind.i64 (-1), AVal.int IntKind.i64 0]) [])
  else
  bif c1 then
  bif decide (n2 < 128) then
  bif decide (1 > n0) then k (Out.ret (AVal.tuple [AVal.int IntKind.i64 (-1), AVal.int IntKind.i64 1]) [])
  else
  bif c1 then
  bif decide (0 ≤ n3 ∧ n3 ≤ 2147483647) then
  bif decide (1 ≤ n0) || !!c4 then
  bif bif c4 then true else !X n3 == List.drop (Int.toNat 0) (List.take (Int.toNat 1) s) then
  k (Out.ret (AVal.tuple [AVal.int IntKind.i64 (-1), AVal.int IntKind.i64 1]) [])
  else k (Out.ret (AVal.tuple [AVal.int IntKind.i64 n3, AVal.int IntKind.i64 1]) [])
  else none
  else none
  else none
  else
  bif bif decide (n2 ≥ 194) then decide (n2 < 224) else false then
  bif decide (2 > n0) then k (Out.ret (AVal.tuple [AVal.int IntKind.i64 (-1), AVal.int IntKind.i64 1]) [])
  else
  bif c1 then
  bif c5 then
  bif c8 then
  bif c9 then k (Out.ret (AVal.tuple [AVal.int IntKind.i64 (-1), AVal.int IntKind.i64 1]) [])
  else
  bif c5 then
  bif decide (0 ≤ n11 ∧ n11 ≤ 2147483647) then
  bif decide (2 ≤ n0) || !!c12 then
  bif bif c12 then true else !X n11 == List.drop (Int.toNat 0) (List.take (Int.toNat 2) s) then
  k (Out.ret (AVal.tuple [AVal.int IntKind.i64 (-1), AVal.int IntKind.i64 1]) [])
  else k (Out.ret (AVal.tuple [AVal.int IntKind.i64 n11, AVal.int IntKind.i64 2]) [])
  else none
  else none
  else none
  else none
  else none
  else none
  else
  bif bif decide (n2 ≥ 224) then decide (n2 < 240) else false then
  bif decide (3 > n0) then k (Out.ret (AVal.tuple [AVal.int IntKind.i64 (-1), AVal.int IntKind.i64 1]) [])
  else
  bif c1 then
  bif c5 then
  bif c8 then
  bif c9 then k (Out.ret (AVal.tuple [AVal.int IntKind.i64 (-1), AVal.int IntKind.i64 1]) [])
  else
  bif c5 then
  bif c13 then
  bif c16 then
  bif c17 then k (Out.ret (AVal.tuple [AVal.int IntKind.i64 (-1), AVal.int IntKind.i64 1]) [])
  else
  bif c13 then
  bif decide (0 ≤ n19 ∧ n19 ≤ 2147483647) then
  bif decide (3 ≤ n0) || !!c20 then
  bif
  bif c20 then true
  else !X n19 == List.drop (Int.toNat 0) (List.take (Int.toNat 3) s) then
  k (Out.ret (AVal.tuple [AVal.int IntKind.i64 (-1), AVal.int IntKind.i64 1]) [])
  else k (Out.ret (AVal.tuple [AVal.int IntKind.i64 n19, AVal.int IntKind.i64 3]) [])
  else none
  else none
  else none
  else none
  else none
  else none
  else none
  else none
  else none
  else
  bif bif decide (n2 ≥ 240) then decide (n2 < 245) else false then
  bif decide (4 > n0) then k (Out.ret (AVal.tuple [AVal.int IntKind.i64 (-1), AVal.int IntKind.i64 1]) [])
  else
  bif c1 then
  bif c5 then
  bif c8 then
  bif c9 then k (Out.ret (AVal.tuple [AVal.int IntKind.i64 (-1), AVal.int IntKind.i64 1]) [])
  else
  bif c5 then
  bif c13 then
  bif c16 then
  bif c17 then k (Out.ret (AVal.tuple [AVal.int IntKind.i64 (-1), AVal.int IntKind.i64 1]) [])
  else
  bif c13 then
  bif c21 then
  bif c21 || !!c23 then
  bif bif c23 then true else decide (n22 > 191) then
  k (Out.ret (AVal.tuple [AVal.int IntKind.i64 (-1), AVal.int IntKind.i64 1]) [])
  else
  bif c21 then
  bif decide (0 ≤ n24 ∧ n24 ≤ 2147483647) then
  bif decide (4 ≤ n0) || !!c25 then
  bif
  bif c25 then true
  else !X n24 == List.drop (Int.toNat 0) (List.take (Int.toNat 4) s) then
  k
  (Out.ret
  (AVal.tuple [AVal.int IntKind.i64 (-1), AVal.int IntKind.i64 1]) [])
  else
  k
  (Out.ret (AVal.tuple [AVal.int IntKind.i64 n24, AVal.int IntKind.i64 4])
  [])
  else none
  else none
  else none
  else none
  else none
  else none
  else none
  else none
  else none
  else none
  else none
  else none
  else k (Out.ret (AVal.tuple [AVal.int IntKind.i64 (-1), AVal.int IntKind.i64 1]) [])
  else none) := by
  subst e_n0 e_c1 e_n2 e_n3 e_c4 e_c5 e_n6 e_c7 e_c8 e_c9 e_n10 e_n11 e_c12 e_c13 e_n14 e_c15 e_c16 e_c17 e_n18 e_n19 e_c20 e_c21 e_n22 e_c23 e_n24 e_c25
  kernel_rfl
end Go.Mu
set_option linter.unusedVariables false
set_option linter.unusedSimpArgs false
set_option maxRecDepth 100000
namespace Go.Mu
open Go Go.Proofs
theorem oct256 {p : UInt8 → Prop} [DecidablePred p] (h : ∀ n : Fin 256, p (UInt8.ofNat n)) (c : UInt8) : p c := by
  have := h ⟨c.toNat, c.toNat_lt⟩
  simpa using this
end Go.Mu
set_option linter.unusedVariables false
set_option linter.unusedSimpArgs false
set_option maxRecDepth 100000
namespace Go.Mu
open Go Go.Proofs
theorem bo8' {x : Int} (h1 : 0 ≤ x) (h2 : x < 256) : byteOf [AVal.int IntKind.u8 (IntKind.u8.wrap (IntKind.i64.wrap x))] = x.toNat.toUInt8 := by
  rw [wrap_of (by omega) (by omega), wrap8, show x % 256 = x by omega]
  rfl
theorem rEn_exact (n : Int) (h0 : 0 ≤ n) (h : n ≤ 2147483647) (k : Out → Ans) : iFun Tryd.prog (Lay.nil.hd Tryd.prog) Lay.nil.fhs 0 105 [.int .i64 n] [] k = k (.ret (.tuple [.str (encX n), .int .i64 (encXE n)]) []) := by
  refine (rEn_fun n k).trans ?_
  have f1 : IntKind.i64.wrap (n.tdiv 64) = n / 64 := by rw [Int.tdiv_eq_ediv_of_nonneg h0, wrap_of (by omega) (by omega)]
  have f2 : IntKind.i64.wrap (n.tdiv 4096) = n / 4096 := by rw [Int.tdiv_eq_ediv_of_nonneg h0, wrap_of (by omega) (by omega)]
  have f3 : IntKind.i64.wrap (n.tdiv 262144) = n / 262144 := by rw [Int.tdiv_eq_ediv_of_nonneg h0, wrap_of (by omega) (by omega)]
  have m1 : n.tmod 64 = n % 64 := Int.tmod_eq_emod_of_nonneg h0
  have m2 : (n / 64).tmod 64 = n / 64 % 64 := Int.tmod_eq_emod_of_nonneg (by omega)
  have m3 : (n / 4096).tmod 64 = n / 4096 % 64 := Int.tmod_eq_emod_of_nonneg (by omega)
  simp only [f1, f2, f3, m1, m2, m3, Bool.and_false, Bool.not_false, cond_true]
  unfold encX encXE badR
  by_cases hb : n > 1114111
  · simp (disch := omega) only [dT, dF, cond_true, cond_false, Bool.or_true, Bool.true_or, Bool.false_or, Bool.or_false]
  by_cases hs : 55296 ≤ n ∧ n ≤ 57343
  · obtain ⟨hs1, hs2⟩ := hs
    simp (disch := omega) only [dT, dF, cond_true, cond_false, Bool.or_true, Bool.true_or, Bool.false_or, Bool.or_false, Bool.and_self]
  have hsb : (decide (55296 ≤ n) && decide (n ≤ 57343)) = false := by
    by_cases h1 : 55296 ≤ n
    · rw [dF (show ¬ n ≤ 57343 by omega), Bool.and_false]
    · rw [dF h1, Bool.false_and]
  have hsc : (bif decide (n ≥ 55296) then decide (n ≤ 57343) else false) = false := by rw [bif_and]; exact hsb
  rw [hsb, hsc, dF (show ¬ n < 0 by omega), dF hb]
  simp only [cond_false, Bool.or_self]
  have fin : ∀ (t : List UInt8), t = Lib.encodeRune n → k (Out.ret (AVal.tuple [AVal.str t, AVal.int IntKind.i64 0]) []) = k (Out.ret (AVal.tuple [AVal.str (Lib.encodeRune n), AVal.int IntKind.i64 0]) []) := fun t e => by rw [e]
  by_cases h1 : n ≤ 127
  · simp (disch := omega) only [dT, dF, cond_true, cond_false]
    refine fin _ ?_
    unfold Lib.encodeRune
    rw [Lib.encodeRuneZ_one h0 h1]
    show [UInt8.ofNat (IntKind.u8.wrap n).toNat] = [n.toNat.toUInt8]
    rw [wrap8, show n % 256 = n by omega, Nat.toUInt8]
  by_cases h2 : n ≤ 2047
  · simp (disch := omega) only [dT, dF, cond_true, cond_false]
    refine fin _ ?_
    unfold Lib.encodeRune
    rw [Lib.encodeRuneZ_two (by omega) h2, bo8' (by omega) (by omega), bo8' (by omega) (by omega)]
    rfl
  by_cases h3 : n ≤ 65535
  · simp (disch := omega) only [dT, dF, cond_true, cond_false]
    refine fin _ ?_
    unfold Lib.encodeRune
    rw [Lib.encodeRuneZ_three (by omega), bo8' (by omega) (by omega), bo8' (by omega) (by omega), bo8' (by omega) (by omega)]
    rfl
  simp (disch := omega) only [dT, dF, cond_true, cond_false]
  refine fin _ ?_
  unfold Lib.encodeRune
  rw [Lib.encodeRuneZ_four (by omega) (by omega), bo8' (by omega) (by omega), bo8' (by omega) (by omega), bo8' (by omega) (by omega), bo8' (by omega) (by omega)]
  rfl
theorem encrTold_ok : ∀ xs H k out, encrTold encX encXE xs H k = some out → ∃ o, CallOK Tryd.prog 105 xs H o ∧ k o = some out := mkFS_ok fun ys xs e h => by
  obtain ⟨n, rfl⟩ : ∃ n, xs = [.int .i64 n] := ⟨_, e⟩
  rw [decide_eq_true_eq] at h
  exact ⟨_, fun k => rfl, Lay.nil_ok.callF (G := []) rfl (fun k => rEn_exact n h.1 h.2 k)⟩
/- Decode -/
theorem and31 (c : UInt8) : IntKind.i64.wrap ((BitVec.ofInt 64 (IntKind.i64.wrap (c.toNat : Int)) &&& BitVec.ofInt 64 31).toNat : Int) = ((c.toNat % 32 : Nat) : Int) := oct256 (p := fun c => IntKind.i64.wrap ((BitVec.ofInt 64 (IntKind.i64.wrap (c.toNat : Int)) &&& BitVec.ofInt 64 31).toNat : Int) = ((c.toNat % 32 : Nat) : Int)) (by decide +kernel) c
theorem and127 (c : UInt8) : IntKind.i64.wrap ((BitVec.ofInt 64 (IntKind.i64.wrap (c.toNat : Int)) &&& BitVec.ofInt 64 127).toNat : Int) = ((c.toNat % 128 : Nat) : Int) := oct256 (p := fun c => IntKind.i64.wrap ((BitVec.ofInt 64 (IntKind.i64.wrap (c.toNat : Int)) &&& BitVec.ofInt 64 127).toNat : Int) = ((c.toNat % 128 : Nat) : Int)) (by decide +kernel) c
theorem and15 (c : UInt8) : IntKind.i64.wrap ((BitVec.ofInt 64 (IntKind.i64.wrap (c.toNat : Int)) &&& BitVec.ofInt 64 15).toNat : Int) = ((c.toNat % 16 : Nat) : Int) := oct256 (p := fun c => IntKind.i64.wrap ((BitVec.ofInt 64 (IntKind.i64.wrap (c.toNat : Int)) &&& BitVec.ofInt 64 15).toNat : Int) = ((c.toNat % 16 : Nat) : Int)) (by decide +kernel) c
theorem and7 (c : UInt8) : IntKind.i64.wrap ((BitVec.ofInt 64 (IntKind.i64.wrap (c.toNat : Int)) &&& BitVec.ofInt 64 7).toNat : Int) = ((c.toNat % 8 : Nat) : Int) := oct256 (p := fun c => IntKind.i64.wrap ((BitVec.ofInt 64 (IntKind.i64.wrap (c.toNat : Int)) &&& BitVec.ofInt 64 7).toNat : Int) = ((c.toNat % 8 : Nat) : Int)) (by decide +kernel) c
theorem encX_good {n : Int} (h0 : 0 ≤ n) (h : n ≤ 1114111) (h2 : ¬ (55296 ≤ n ∧ n ≤ 57343)) : encX n = Lib.encodeRune n ∧ (encXE n != 0) = false := by
  have : badR n = false := by
    unfold badR
    rw [dF (show ¬ n < 0 by omega), dF (show ¬ n > 1114111 by omega)]
    by_cases h1 : 55296 ≤ n
    · rw [dF (show ¬ n ≤ 57343 by omega)]; simp
    · rw [dF h1]; rfl
  unfold encX encXE
  rw [this]
  exact ⟨rfl, rfl⟩
theorem encX_bad {n : Int} (h : n > 1114111 ∨ (55296 ≤ n ∧ n ≤ 57343)) : (encXE n != 0) = true := by
  have : badR n = true := by
    unfold badR
    rcases h with h | h
    · rw [dT h]; simp
    · rw [dT h.1, dT h.2]; simp
  unfold encXE
  rw [this]
  rfl
theorem u8_of (x : UInt8) {z : Int} (h : z = x.toNat) : z.toNat.toUInt8 = x := by
  rw [h, Int.toNat_natCast]
  exact UInt8.ofNat_toNat
theorem dgo_N (s : List UInt8) (h : s ≠ []) : Lib.decodeGo (ba s) = Lib.decodeN s.length (s.getD 0 0).toNat (s.getD 1 0).toNat (s.getD 2 0).toNat (s.getD 3 0).toNat := by
  have hl : 0 < s.length := List.length_pos_iff.2 h
  unfold Lib.decodeGo
  rw [if_neg (by rw [ba_size]; omega), Lib.decode_N]
  rfl
theorem take1 (s : List UInt8) (h : 1 ≤ s.length) : s.take 1 = [s.getD 0 0] := by
  match s, h with
  | a :: t, _ => rfl
theorem take2 (s : List UInt8) (h : 2 ≤ s.length) : s.take 2 = [s.getD 0 0, s.getD 1 0] := by
  match s, h with
  | a :: b :: t, _ => rfl
theorem take3 (s : List UInt8) (h : 3 ≤ s.length) : s.take 3 = [s.getD 0 0, s.getD 1 0, s.getD 2 0] := by
  match s, h with
  | a :: b :: c :: t, _ => rfl
theorem take4 (s : List UInt8) (h : 4 ≤ s.length) : s.take 4 = [s.getD 0 0, s.getD 1 0, s.getD 2 0, s.getD 3 0] := by
  match s, h with
  | a :: b :: c :: d :: t, _ => rfl
theorem decN_bad {s : ByteArray} (h : Lib.decodeGo s = (65533, 1)) : decC s = -1 ∧ (Lib.decodeGo s).2 = 1 := by
  unfold decC
  rw [h]
  exact ⟨rfl, rfl⟩
theorem decN_good {s : ByteArray} {c n : Nat} (h : Lib.decodeGo s = (c, n)) (h2 : ¬ (c = 65533 ∧ n < 2)) : decC s = (c : Nat) ∧ (Lib.decodeGo s).2 = n := by
  unfold decC
  rw [h]
  exact ⟨if_neg h2, rfl⟩
theorem enc_len1 (n : Int) (h0 : 0 ≤ n) (h : n ≤ 127) : (Lib.encodeRune n).length = 1 := by unfold Lib.encodeRune; rw [Lib.encodeRuneZ_one h0 h]; rfl
theorem enc_len2 (n : Int) (h0 : 128 ≤ n) (h : n ≤ 2047) : (Lib.encodeRune n).length = 2 := by unfold Lib.encodeRune; rw [Lib.encodeRuneZ_two h0 h]; rfl
theorem enc_len3 (n : Int) (h : (2048 ≤ n ∧ n < 55296) ∨ (57343 < n ∧ n ≤ 65535)) : (Lib.encodeRune n).length = 3 := by unfold Lib.encodeRune; rw [Lib.encodeRuneZ_three h]; rfl
theorem ne_len {a b : List UInt8} (h : a.length ≠ b.length) : (a == b) = false := by
  rw [beq_eq_false_iff_ne]
  exact fun e => h (by rw [e])
set_option maxHeartbeats 4000000 in
theorem rdec_call (s : List UInt8) (hs : s.length ≤ 1099511627776) (k : Out → Ans) : iFun Tryd.prog ((layRd0 encX encXE).hd Tryd.prog) (layRd0 encX encXE).fhs 9 165 [.str s] [] k = k (.ret (.tuple [.int .i64 (decC (ba s)), .int .i64 ((Lib.decodeGo (ba s)).2 : Nat)]) []) := by
  by_cases hne : s = []
  · subst hne
    have e1 : decC (ba []) = -1 := rfl
    have e2 : (Lib.decodeGo (ba [])).2 = 0 := rfl
    rw [e1, e2]
    exact rdec_fun encX encXE [] k _ rfl _ rfl _ rfl _ rfl _ rfl _ rfl _ rfl _ rfl _ rfl _ rfl _ rfl _ rfl _ rfl _ rfl _ rfl _ rfl _ rfl _ rfl _ rfl _ rfl _ rfl _ rfl _ rfl _ rfl _ rfl _ rfl
  have hl : 0 < s.length := List.length_pos_iff.2 hne
  have hD := dgo_N s hne
  have h0 := UInt8.toNat_lt (s.getD 0 0)
  have h1 := UInt8.toNat_lt (s.getD 1 0)
  have h2 := UInt8.toNat_lt (s.getD 2 0)
  have h3 := UInt8.toNat_lt (s.getD 3 0)
  have m0 := and127 (s.getD 0 0)
  have m1 := and31 (s.getD 0 0)
  have m2 := and15 (s.getD 0 0)
  have m3 := and7 (s.getD 0 0)
  have t1 := take1 s hl
  have t2 := take2 s
  have t3 := take3 s
  have t4 := take4 s
  have u0 := @u8_of (s.getD 0 0)
  have u1 := @u8_of (s.getD 1 0)
  have u2 := @u8_of (s.getD 2 0)
  have u3 := @u8_of (s.getD 3 0)
  have es : (s == []) = false := by simp [hne]
  obtain ⟨x0, e0⟩ : ∃ x, s.getD 0 0 = x := ⟨_, rfl⟩
  obtain ⟨x1, e1⟩ : ∃ x, s.getD 1 0 = x := ⟨_, rfl⟩
  obtain ⟨x2, e2⟩ : ∃ x, s.getD 2 0 = x := ⟨_, rfl⟩
  obtain ⟨x3, e3⟩ : ∃ x, s.getD 3 0 = x := ⟨_, rfl⟩
  rw [e0] at h0 m0 m1 m2 m3
  rw [e1] at h1
  rw [e2] at h2
  rw [e3] at h3
  rw [e0] at u0
  rw [e1] at u1
  rw [e2] at u2
  rw [e3] at u3
  rw [e0] at t1
  rw [e0, e1] at t2
  rw [e0, e1, e2] at t3
  rw [e0, e1, e2, e3] at t4
  rw [e0, e1, e2, e3] at hD
  obtain ⟨n, en⟩ : ∃ n : Nat, s.length = n := ⟨_, rfl⟩
  obtain ⟨b0, f0⟩ : ∃ n : Nat, x0.toNat = n := ⟨_, rfl⟩
  obtain ⟨b1, f1⟩ : ∃ n : Nat, x1.toNat = n := ⟨_, rfl⟩
  obtain ⟨b2, f2⟩ : ∃ n : Nat, x2.toNat = n := ⟨_, rfl⟩
  obtain ⟨b3, f3⟩ : ∃ n : Nat, x3.toNat = n := ⟨_, rfl⟩
  rw [en, f0, f1, f2, f3] at hD
  rw [f0] at h0 m0 m1 m2 m3
  rw [f1] at h1
  rw [f2] at h2
  rw [f3] at h3
  rw [en] at t2 t3 t4 hl hs
  simp only [f0] at u0
  simp only [f1] at u1
  simp only [f2] at u2
  simp only [f3] at u3
  have w1 : IntKind.i64.wrap ((b1 : Nat) : Int) = b1 := wrap_of (by omega) (by omega)
  have w2 : IntKind.i64.wrap ((b2 : Nat) : Int) = b2 := wrap_of (by omega) (by omega)
  have w3 : IntKind.i64.wrap ((b3 : Nat) : Int) = b3 := wrap_of (by omega) (by omega)
  refine (rdec_fun encX encXE s k (n : Int) (by rw [en]) _ rfl (b0 : Int) (by rw [e0, f0]) ((b0 % 128 : Nat) : Int) m0.symm _ rfl _ rfl (b1 : Int) (by rw [e1, f1]) _ rfl _ rfl _ rfl (b1 : Int) w1.symm (((b0 % 32 : Nat) : Int) * 64 + b1 - 128) (by rw [m1, wrap_of (n := ((b0 % 32 : Nat) : Int) * 64) (by omega) (by omega), wrap_of (n := ((b0 % 32 : Nat) : Int) * 64 + b1) (by omega) (by omega), wrap_of (by omega) (by omega)])
    _ rfl _ rfl (b2 : Int) (by rw [e2, f2]) _ rfl _ rfl _ rfl (b2 : Int) w2.symm ((((b0 % 16 : Nat) : Int) * 64 + b1 - 128) * 64 + b2 - 128) (by rw [m2, wrap_of (n := ((b0 % 16 : Nat) : Int) * 64) (by omega) (by omega), wrap_of (n := ((b0 % 16 : Nat) : Int) * 64 + b1) (by omega) (by omega), wrap_of (n := ((b0 % 16 : Nat) : Int) * 64 + b1 - 128) (by omega) (by omega), wrap_of (n := (((b0 % 16 : Nat) : Int) * 64 + b1 - 128) * 64) (by omega) (by omega), wrap_of (n := (((b0 % 16 : Nat) : Int) * 64 + b1 - 128) * 64 + b2) (by omega) (by omega), wrap_of (by omega) (by omega)])
    _ rfl _ rfl (b3 : Int) (by rw [e3, f3]) _ rfl (((((b0 % 8 : Nat) : Int) * 64 + b1 - 128) * 64 + b2 - 128) * 64 + b3 - 128) (by rw [m3, w3, wrap_of (n := ((b0 % 8 : Nat) : Int) * 64) (by omega) (by omega), wrap_of (n := ((b0 % 8 : Nat) : Int) * 64 + b1) (by omega) (by omega), wrap_of (n := ((b0 % 8 : Nat) : Int) * 64 + b1 - 128) (by omega) (by omega), wrap_of (n := (((b0 % 8 : Nat) : Int) * 64 + b1 - 128) * 64) (by omega) (by omega), wrap_of (n := (((b0 % 8 : Nat) : Int) * 64 + b1 - 128) * 64 + b2) (by omega) (by omega), wrap_of (n := (((b0 % 8 : Nat) : Int) * 64 + b1 - 128) * 64 + b2 - 128) (by omega) (by omega), wrap_of (n := ((((b0 % 8 : Nat) : Int) * 64 + b1 - 128) * 64 + b2 - 128) * 64) (by omega) (by omega), wrap_of (n := ((((b0 % 8 : Nat) : Int) * 64 + b1 - 128) * 64 + b2 - 128) * 64 + b3) (by omega) (by omega), wrap_of (by omega) (by omega)]) _ rfl).trans ?_
  have d0 : Int.toNat 0 = 0 := rfl
  have d1 : Int.toNat 1 = 1 := rfl
  have d2 : Int.toNat 2 = 2 := rfl
  have d3 : Int.toNat 3 = 3 := rfl
  have d4 : Int.toNat 4 = 4 := rfl
  simp only [es, cond_false, d0, d1, d2, d3, d4, List.drop_zero]
  unfold Lib.decodeN at hD
  have bad : Lib.decodeGo (ba s) = (65533, 1) → k (.ret (.tuple [.int .i64 (-1), .int .i64 1]) []) = k (.ret (.tuple [.int .i64 (decC (ba s)), .int .i64 ((Lib.decodeGo (ba s)).2 : Nat)]) []) := fun h => by rw [(decN_bad h).1, (decN_bad h).2]; rfl
  have good : ∀ (c m : Nat) (z : Int), Lib.decodeGo (ba s) = (c, m) → ¬ (c = 65533 ∧ m < 2) → z = c → k (.ret (.tuple [.int .i64 z, .int .i64 (m : Nat)]) []) = k (.ret (.tuple [.int .i64 (decC (ba s)), .int .i64 ((Lib.decodeGo (ba s)).2 : Nat)]) []) := fun c m z h h2 h3 => by rw [(decN_good h h2).1, (decN_good h h2).2, h3]
  by_cases c1 : b0 < 128
  · rw [if_pos c1] at hD
    obtain ⟨g1, g2⟩ := encX_good (n := ((b0 % 128 : Nat) : Int)) (by omega) (by omega) (by omega)
    have g3 : Lib.encodeRune ((b0 % 128 : Nat) : Int) = [x0] := by
      unfold Lib.encodeRune
      rw [Lib.encodeRuneZ_one (by omega) (by omega)]
      show [((b0 % 128 : Nat) : Int).toNat.toUInt8] = [x0]
      rw [u0 (z := ((b0 % 128 : Nat) : Int)) (by omega)]
    simp (disch := omega) only [dT, dF, cond_true, cond_false, g1, g2, g3, t1, beq_self_eq_true, Bool.not_true, Bool.true_or]
    exact good b0 1 _ hD (by omega) (by omega)
  rw [if_neg c1] at hD
  by_cases c2 : 194 ≤ b0 ∧ b0 < 224
  · by_cases hn : 2 > n
    · simp (disch := omega) only [dT, dF, cond_true, cond_false, Bool.true_or, Bool.or_true, Bool.not_false, Bool.not_true, Bool.or_self, Bool.or_false, Bool.false_or, Bool.not_not]
      exact bad (by rw [hD]; (repeat' split) <;> first | rfl | (exfalso; omega))
    by_cases q1 : b1 < 128
    · simp (disch := omega) only [dT, dF, cond_true, cond_false, Bool.true_or, Bool.or_true, Bool.not_false, Bool.not_true, Bool.or_self, Bool.or_false, Bool.false_or, Bool.not_not]
      exact bad (by rw [hD]; (repeat' split) <;> first | rfl | (exfalso; omega))
    by_cases p1 : b1 > 191
    · simp (disch := omega) only [dT, dF, cond_true, cond_false, Bool.true_or, Bool.or_true, Bool.not_false, Bool.not_true, Bool.or_self, Bool.or_false, Bool.false_or, Bool.not_not]
      exact bad (by rw [hD]; (repeat' split) <;> first | rfl | (exfalso; omega))
    have hN := t2 (by omega)
    obtain ⟨z, hz⟩ : ∃ z : Int, z = ((b0 % 32 : Nat) : Int) * 64 + b1 - 128 := ⟨_, rfl⟩
    rw [← hz]
    have hzc : z = ((b0 % 32 * 64 + b1 % 64 : Nat) : Int) := by omega
    obtain ⟨g1, g2⟩ := encX_good (n := z) (by omega) (by omega) (by omega)
    have g3 : Lib.encodeRune z = [x0, x1] := by
      unfold Lib.encodeRune
      rw [Lib.encodeRuneZ_two (by omega) (by omega)]
      show [(192 + z / 64).toNat.toUInt8, (128 + z % 64).toNat.toUInt8] = _
      rw [u0 (z := 192 + z / 64) (by omega), u1 (z := 128 + z % 64) (by omega)]
    simp (disch := omega) only [dT, dF, cond_true, cond_false, Bool.true_or, Bool.or_true, Bool.not_false, Bool.not_true, Bool.or_self, Bool.or_false, Bool.false_or, Bool.not_not, g1, g2, g3, hN, beq_self_eq_true]
    exact good (b0 % 32 * 64 + b1 % 64) 2 z (by rw [hD]; (repeat' split) <;> first | rfl | (exfalso; omega)) (by omega) hzc
  by_cases c3 : 224 ≤ b0 ∧ b0 < 240
  · by_cases hn : 3 > n
    · simp (disch := omega) only [dT, dF, cond_true, cond_false, Bool.true_or, Bool.or_true, Bool.not_false, Bool.not_true, Bool.or_self, Bool.or_false, Bool.false_or, Bool.not_not]
      exact bad (by rw [hD]; (repeat' split) <;> first | rfl | (exfalso; omega))
    by_cases q1 : b1 < 128
    · simp (disch := omega) only [dT, dF, cond_true, cond_false, Bool.true_or, Bool.or_true, Bool.not_false, Bool.not_true, Bool.or_self, Bool.or_false, Bool.false_or, Bool.not_not]
      exact bad (by rw [hD]; (repeat' split) <;> first | rfl | (exfalso; omega))
    by_cases p1 : b1 > 191
    · simp (disch := omega) only [dT, dF, cond_true, cond_false, Bool.true_or, Bool.or_true, Bool.not_false, Bool.not_true, Bool.or_self, Bool.or_false, Bool.false_or, Bool.not_not]
      exact bad (by rw [hD]; (repeat' split) <;> first | rfl | (exfalso; omega))
    by_cases q2 : b2 < 128
    · simp (disch := omega) only [dT, dF, cond_true, cond_false, Bool.true_or, Bool.or_true, Bool.not_false, Bool.not_true, Bool.or_self, Bool.or_false, Bool.false_or, Bool.not_not]
      exact bad (by rw [hD]; (repeat' split) <;> first | rfl | (exfalso; omega))
    by_cases p2 : b2 > 191
    · simp (disch := omega) only [dT, dF, cond_true, cond_false, Bool.true_or, Bool.or_true, Bool.not_false, Bool.not_true, Bool.or_self, Bool.or_false, Bool.false_or, Bool.not_not]
      exact bad (by rw [hD]; (repeat' split) <;> first | rfl | (exfalso; omega))
    have hN := t3 (by omega)
    obtain ⟨z, hz⟩ : ∃ z : Int, z = (((b0 % 16 : Nat) : Int) * 64 + b1 - 128) * 64 + b2 - 128 := ⟨_, rfl⟩
    rw [← hz]
    have hzc : z = ((b0 % 16 * 4096 + b1 % 64 * 64 + b2 % 64 : Nat) : Int) := by omega
    by_cases r1 : z < 2048
    · obtain ⟨g1, g2⟩ := encX_good (n := z) (by omega) (by omega) (by omega)
      have g3 : (Lib.encodeRune z == [x0, x1, x2]) = false := by
        by_cases r0 : z ≤ 127
        · exact ne_len (by rw [enc_len1 z (by omega) r0]; simp)
        · exact ne_len (by rw [enc_len2 z (by omega) (by omega)]; simp)
      simp (disch := omega) only [dT, dF, cond_true, cond_false, Bool.true_or, Bool.or_true, Bool.not_false, Bool.not_true, Bool.or_self, Bool.or_false, Bool.false_or, Bool.not_not, g1, g2, hN, g3]
      exact bad (by rw [hD]; (repeat' split) <;> first | rfl | (exfalso; omega))
    by_cases r2 : 55296 ≤ z ∧ z ≤ 57343
    · have g2 := encX_bad (n := z) (.inr r2)
      simp (disch := omega) only [dT, dF, cond_true, cond_false, Bool.true_or, Bool.or_true, Bool.not_false, Bool.not_true, Bool.or_self, Bool.or_false, Bool.false_or, Bool.not_not, g2]
      exact bad (by rw [hD]; (repeat' split) <;> first | rfl | (exfalso; omega))
    obtain ⟨g1, g2⟩ := encX_good (n := z) (by omega) (by omega) (by omega)
    have g3 : Lib.encodeRune z = [x0, x1, x2] := by
      unfold Lib.encodeRune
      rw [Lib.encodeRuneZ_three (by omega)]
      show [(224 + z / 4096).toNat.toUInt8, (128 + z / 64 % 64).toNat.toUInt8, (128 + z % 64).toNat.toUInt8] = _
      rw [u0 (z := 224 + z / 4096) (by omega), u1 (z := 128 + z / 64 % 64) (by omega), u2 (z := 128 + z % 64) (by omega)]
    simp (disch := omega) only [dT, dF, cond_true, cond_false, Bool.true_or, Bool.or_true, Bool.not_false, Bool.not_true, Bool.or_self, Bool.or_false, Bool.false_or, Bool.not_not, g1, g2, g3, hN, beq_self_eq_true]
    exact good (b0 % 16 * 4096 + b1 % 64 * 64 + b2 % 64) 3 z (by rw [hD]; (repeat' split) <;> first | rfl | (exfalso; omega)) (by omega) hzc
  by_cases c4 : 240 ≤ b0 ∧ b0 < 245
  · by_cases hn : 4 > n
    · simp (disch := omega) only [dT, dF, cond_true, cond_false, Bool.true_or, Bool.or_true, Bool.not_false, Bool.not_true, Bool.or_self, Bool.or_false, Bool.false_or, Bool.not_not]
      exact bad (by rw [hD]; (repeat' split) <;> first | rfl | (exfalso; omega))
    by_cases q1 : b1 < 128
    · simp (disch := omega) only [dT, dF, cond_true, cond_false, Bool.true_or, Bool.or_true, Bool.not_false, Bool.not_true, Bool.or_self, Bool.or_false, Bool.false_or, Bool.not_not]
      exact bad (by rw [hD]; (repeat' split) <;> first | rfl | (exfalso; omega))
    by_cases p1 : b1 > 191
    · simp (disch := omega) only [dT, dF, cond_true, cond_false, Bool.true_or, Bool.or_true, Bool.not_false, Bool.not_true, Bool.or_self, Bool.or_false, Bool.false_or, Bool.not_not]
      exact bad (by rw [hD]; (repeat' split) <;> first | rfl | (exfalso; omega))
    by_cases q2 : b2 < 128
    · simp (disch := omega) only [dT, dF, cond_true, cond_false, Bool.true_or, Bool.or_true, Bool.not_false, Bool.not_true, Bool.or_self, Bool.or_false, Bool.false_or, Bool.not_not]
      exact bad (by rw [hD]; (repeat' split) <;> first | rfl | (exfalso; omega))
    by_cases p2 : b2 > 191
    · simp (disch := omega) only [dT, dF, cond_true, cond_false, Bool.true_or, Bool.or_true, Bool.not_false, Bool.not_true, Bool.or_self, Bool.or_false, Bool.false_or, Bool.not_not]
      exact bad (by rw [hD]; (repeat' split) <;> first | rfl | (exfalso; omega))
    by_cases q3 : b3 < 128
    · simp (disch := omega) only [dT, dF, cond_true, cond_false, Bool.true_or, Bool.or_true, Bool.not_false, Bool.not_true, Bool.or_self, Bool.or_false, Bool.false_or, Bool.not_not]
      exact bad (by rw [hD]; (repeat' split) <;> first | rfl | (exfalso; omega))
    by_cases p3 : b3 > 191
    · simp (disch := omega) only [dT, dF, cond_true, cond_false, Bool.true_or, Bool.or_true, Bool.not_false, Bool.not_true, Bool.or_self, Bool.or_false, Bool.false_or, Bool.not_not]
      exact bad (by rw [hD]; (repeat' split) <;> first | rfl | (exfalso; omega))
    have hN := t4 (by omega)
    obtain ⟨z, hz⟩ : ∃ z : Int, z = ((((b0 % 8 : Nat) : Int) * 64 + b1 - 128) * 64 + b2 - 128) * 64 + b3 - 128 := ⟨_, rfl⟩
    rw [← hz]
    have hzc : z = ((b0 % 8 * 262144 + b1 % 64 * 4096 + b2 % 64 * 64 + b3 % 64 : Nat) : Int) := by omega
    by_cases r1 : z < 65536
    · by_cases r2 : 55296 ≤ z ∧ z ≤ 57343
      · have g2 := encX_bad (n := z) (.inr r2)
        simp (disch := omega) only [dT, dF, cond_true, cond_false, Bool.true_or, Bool.or_true, Bool.not_false, Bool.not_true, Bool.or_self, Bool.or_false, Bool.false_or, Bool.not_not, g2]
        exact bad (by rw [hD]; (repeat' split) <;> first | rfl | (exfalso; omega))
      obtain ⟨g1, g2⟩ := encX_good (n := z) (by omega) (by omega) (by omega)
      have g3 : (Lib.encodeRune z == [x0, x1, x2, x3]) = false := by
        by_cases r0 : z ≤ 127
        · exact ne_len (by rw [enc_len1 z (by omega) r0]; simp)
        by_cases r00 : z ≤ 2047
        · exact ne_len (by rw [enc_len2 z (by omega) (by omega)]; simp)
        · exact ne_len (by rw [enc_len3 z (by omega)]; simp)
      simp (disch := omega) only [dT, dF, cond_true, cond_false, Bool.true_or, Bool.or_true, Bool.not_false, Bool.not_true, Bool.or_self, Bool.or_false, Bool.false_or, Bool.not_not, g1, g2, hN, g3]
      exact bad (by rw [hD]; (repeat' split) <;> first | rfl | (exfalso; omega))
    by_cases r2 : z > 1114111
    · have g2 := encX_bad (n := z) (.inl r2)
      simp (disch := omega) only [dT, dF, cond_true, cond_false, Bool.true_or, Bool.or_true, Bool.not_false, Bool.not_true, Bool.or_self, Bool.or_false, Bool.false_or, Bool.not_not, g2]
      exact bad (by rw [hD]; (repeat' split) <;> first | rfl | (exfalso; omega))
    obtain ⟨g1, g2⟩ := encX_good (n := z) (by omega) (by omega) (by omega)
    have g3 : Lib.encodeRune z = [x0, x1, x2, x3] := by
      unfold Lib.encodeRune
      rw [Lib.encodeRuneZ_four (by omega) (by omega)]
      show [(240 + z / 262144).toNat.toUInt8, (128 + z / 4096 % 64).toNat.toUInt8, (128 + z / 64 % 64).toNat.toUInt8, (128 + z % 64).toNat.toUInt8] = _
      rw [u0 (z := 240 + z / 262144) (by omega), u1 (z := 128 + z / 4096 % 64) (by omega), u2 (z := 128 + z / 64 % 64) (by omega), u3 (z := 128 + z % 64) (by omega)]
    simp (disch := omega) only [dT, dF, cond_true, cond_false, Bool.true_or, Bool.or_true, Bool.not_false, Bool.not_true, Bool.or_self, Bool.or_false, Bool.false_or, Bool.not_not, g1, g2, g3, hN, beq_self_eq_true]
    exact good (b0 % 8 * 262144 + b1 % 64 * 4096 + b2 % 64 * 64 + b3 % 64) 4 z (by rw [hD]; (repeat' split) <;> first | rfl | (exfalso; omega)) (by omega) hzc
  have k1 : (bif decide ((b0 : Int) ≥ 194) then decide ((b0 : Int) < 224) else false) = false := by
    by_cases h : (b0 : Int) ≥ 194
    · rw [dT h, dF (show ¬ (b0 : Int) < 224 by omega)]; rfl
    · rw [dF h]; rfl
  have k2 : (bif decide ((b0 : Int) ≥ 224) then decide ((b0 : Int) < 240) else false) = false := by
    by_cases h : (b0 : Int) ≥ 224
    · rw [dT h, dF (show ¬ (b0 : Int) < 240 by omega)]; rfl
    · rw [dF h]; rfl
  have k3 : (bif decide ((b0 : Int) ≥ 240) then decide ((b0 : Int) < 245) else false) = false := by
    by_cases h : (b0 : Int) ≥ 240
    · rw [dT h, dF (show ¬ (b0 : Int) < 245 by omega)]; rfl
    · rw [dF h]; rfl
  rw [dT (show (0 : Int) < n by omega), dF (show ¬ (b0 : Int) < 128 by omega), k1, k2, k3]
  simp only [cond_true, cond_false]
  exact bad (by rw [hD]; (repeat' split) <;> first | rfl | (exfalso; omega))
def rdP (s : List UInt8) : Int × Nat := (decC (ba s), (Lib.decodeGo (ba s)).2)
theorem layRd0_ok : (layRd0 encX encXE).OK Tryd.prog := Lay.nil_ok.addF encrTold_ok
end Go.Mu
set_option linter.unusedVariables false
set_option linter.unusedSimpArgs false
set_option maxRecDepth 100000
namespace Go.Mu
open Go Go.Proofs
/- Chars -/
abbrev RdP := List UInt8 → Int × Nat
def rdTold (W : RdP) : FSp := mkFS [.s] (fun xs => decide ((aS xs 0).length ≤ 1099511627776)) (fun xs k => k (.ret (.tuple [.int .i64 (W (aS xs 0)).1, .int .i64 ((W (aS xs 0)).2 : Nat)]) []))
def layRc0 (W : RdP) : Lay := Lay.nil.addF 165 (rdTold W)
def ichRow (c : Int) : List AVal := [.int .i64 c]
abbrev RcR := List UInt8 → List Int
noncomputable def rcSp (R : RcR) : LSp := mkL (fun vs _ H => (aS vs 0, (aI vs 2).toNat)) (fun x => x.2 = 0 ∧ x.1.length ≤ 1099511627776) (fun x => [.str x.1, nilList, .int .i64 (x.2 : Nat)]) (fun _ => []) (fun _ => [])
  (fun x k => cond (x.1 == []) (k (.exit 0) [nilList] [] []) (k (.exit 0) [.own 0 0 (R x.1).length ((R x.1).length - 1) false] [] [.arr 1 ((R x.1).map ichRow) ((R x.1).length - 1)]))
noncomputable def rcFH (R : RcR) : FH := .of [(3, loopSpec 28 [0,3,4] [] [3] [] (rcSp R))]
theorem rc_s0 (R : RcR) (W : RdP) (s : List UInt8) (i : Int) (D : List (FuncId × List AVal)) (k : Kont) : lturn Tryd.prog (layRc0 W) (rcFH R) 104 3 [0,3,4] [] [3] [] (stL 28 [0,3,4] [.str s, nilList, .int .i64 i] [] [] [] D) k = (
 let n0 : Int := (↑s.length : Int);
 let l1 : List UInt8 := List.drop i.toNat (List.take n0.toNat s);
 let n2 : Int := (W l1).fst;
  bif decide (i < n0) then
  bif decide (0 ≤ i) && decide (i ≤ n0) && decide (n0 ≤ n0) then
  bif decide (l1.length ≤ 1099511627776) then
  bif decide (n2 ≤ 0) then
  k AExit.normal
  (stL 28 [0, 3, 4]
  [AVal.str s, AVal.own 0 0 (0 + 1) 0 false,
  AVal.int IntKind.i64 (IntKind.i64.wrap (i + (↑(W l1).snd : Int)))]
  [] [] [Obj.arr 1 [[AVal.int IntKind.i64 65533]] 0] D)
  else
  k AExit.normal
  (stL 28 [0, 3, 4]
  [AVal.str s, AVal.own 0 0 (0 + 1) 0 false,
  AVal.int IntKind.i64 (IntKind.i64.wrap (i + (↑(W l1).snd : Int)))]
  [] [] [Obj.arr 1 [[AVal.int IntKind.i64 n2]] 0] D)
  else none
  else none
  else k (AExit.exit 0) (stL 28 [3] [AVal.list true 0 fun (x : Nat) => []] [] [] [] D)) := by kernel_rfl
theorem rc_s1 (R : RcR) (W : RdP) (s : List UInt8) (i : Int) (q v : Nat) (rows : List (List AVal)) (D : List (FuncId × List AVal)) (k : Kont) : lturn Tryd.prog (layRc0 W) (rcFH R) 104 3 [0,3,4] [] [3] [] (stL 28 [0,3,4] [.str s, .own 0 0 q v false, .int .i64 i] [] [] [.arr 1 rows v] D) k = (
 let n0 : Int := (↑s.length : Int);
 let l1 : List UInt8 := List.drop i.toNat (List.take n0.toNat s);
 let n2 : Int := (W l1).fst;
 let m3 : Nat := q + 1;
 let c4 : Bool := v == v && q == rows.length && decide ((2 * m3 + 1000) * 8 ≤ 281474976710656) && true;
 let m5 : Nat := v + 1;
  bif decide (i < n0) then
  bif decide (0 ≤ i) && decide (i ≤ n0) && decide (n0 ≤ n0) then
  bif decide (l1.length ≤ 1099511627776) then
  bif decide (n2 ≤ 0) then
  bif c4 then
  k AExit.normal
  (stL 28 [0, 3, 4]
  [AVal.str s, AVal.own 0 0 m3 m5 false, AVal.int IntKind.i64 (IntKind.i64.wrap (i + (↑(W l1).snd : Int)))]
  [] [] [Obj.arr 1 (rows.append [[AVal.int IntKind.i64 65533]]) m5] D)
  else none
  else
  bif c4 then
  k AExit.normal
  (stL 28 [0, 3, 4]
  [AVal.str s, AVal.own 0 0 m3 m5 false, AVal.int IntKind.i64 (IntKind.i64.wrap (i + (↑(W l1).snd : Int)))]
  [] [] [Obj.arr 1 (rows.append [[AVal.int IntKind.i64 n2]]) m5] D)
  else none
  else none
  else none
  else k (AExit.exit 0) (stL 28 [3] [AVal.own 0 0 q v false] [] [] [Obj.arr 1 rows v] D)) := by kernel_rfl
noncomputable def layRc (W : RdP) (R : RcR) : Lay := (layRc0 W).addL 104 (rcFH R)
theorem rc_fun (W : RdP) (R : RcR) (s : List UInt8) (k : Out → Ans) : iFun Tryd.prog ((layRc W R).hd Tryd.prog) (layRc W R).fhs 0 104 [.str s] [] k = (
 let m0 : Nat := (R s).length - 1;
  bif
  tst
  ((Int.toNat 0 = 0 ∧ s.length ≤ 1099511627776) ∧
  SubTL [AVal.str s, AVal.list true 0 fun (x : Nat) => [], AVal.int IntKind.i64 0]
  [AVal.str s, AVal.list true 0 fun (x : Nat) => [], AVal.int IntKind.i64 (↑(Int.toNat 0) : Int)] ∧
  ([] : List (List AVal)) = [] ∧ ([] : Heap) = []) then
  bif s == [] then k (Out.ret (AVal.list true 0 fun (x : Nat) => []) [])
  else k (Out.ret (AVal.own 0 0 (R s).length m0 false) [Obj.arr 1 (List.map ichRow (R s)) m0])
  else none) := by kernel_rfl
/- Repair -/
def rpcTold (C : RcR) : FSp := mkFS [.s] (fun xs => decide ((aS xs 0).length ≤ 1099511627776)) (fun xs k => k (.ret (encL false ichRow 0 (C (aS xs 0))) []))
def layRr0 (C : RcR) (X : Int → List UInt8) (E : Int → Int) : Lay := (Lay.nil.addF 104 (rpcTold C)).addF 105 (encrTold X E)
def okCh (l : List Int) : Prop := ∀ c ∈ l, 0 < c ∧ c ≤ 1114111 ∧ ¬ (55296 ≤ c ∧ c ≤ 57343)
abbrev RrR := List Int → List UInt8 × Nat
noncomputable def rrSp (R : RrR) : LSp := mkL (fun vs _ H => (fullOf (vs.getD 1 .undef), decL (fun r => intOf (r.getD 0 .undef)) (vs.getD 1 .undef), (aI vs 2).toNat)) (fun x => x.2.2 = 0 ∧ x.2.1.length ≤ 17592186044416 ∧ okCh x.2.1) (fun x => [nilList, encL x.1 ichRow 0 x.2.1, .int .i64 (x.2.2 : Nat)]) (fun _ => []) (fun _ => [])
  (fun x k => cond (x.2.1 == []) (k (.exit 0) [nilList] [] []) (k (.exit 0) [.own 0 0 (R x.2.1).1.length (R x.2.1).2 false] [] [.arr 1 ((R x.2.1).1.map byteRow) (R x.2.1).2]))
noncomputable def rrFH (R : RrR) : FH := .of [(4, loopSpec 29 [3,4,5] [] [3] [] (rrSp R))]
theorem rr_s0 (R : RrR) (C : RcR) (X : Int → List UInt8) (E : Int → Int) (f : Bool) (l : List Int) (i : Int) (D : List (FuncId × List AVal)) (k : Kont) : lturn Tryd.prog (layRr0 C X E) (rrFH R) 54 4 [3,4,5] [] [3] [] (stL 29 [3,4,5] [nilList, encL f ichRow 0 l, .int .i64 i] [] [] [] D) k = (
 let c0 : Bool := decide (i < (↑l.length : Int));
 let n1 : Int := l.getD i.toNat 0;
 let m2 : Nat := (List.map (fun (c : UInt8) => [AVal.int IntKind.u8 (↑c.toNat : Int)]) (X n1)).length;
 let m3 : Nat := 0 + m2;
  bif c0 then
  bif decide (0 ≤ i) && c0 then
  bif decide (0 ≤ n1 ∧ n1 ≤ 2147483647) then
  bif (decide (0 < m2) || true) && decide ((2 * m3 + 1000) * 1 ≤ 281474976710656) then
  k AExit.normal
  (stL 29 [3, 4, 5]
  [AVal.own 0 0 m3 0 false, AVal.list f l.length fun (i : Nat) => ichRow (l.getD i 0),
  AVal.int IntKind.i64 (IntKind.i64.wrap (i + 1))]
  [] [] [Obj.arr 1 (List.map (fun (c : UInt8) => [AVal.int IntKind.u8 (↑c.toNat : Int)]) (X n1)) 0] D)
  else none
  else none
  else none
  else k (AExit.exit 0) (stL 29 [3] [AVal.list true 0 fun (x : Nat) => []] [] [] [] D)) := by kernel_rfl
theorem rr_s1 (R : RrR) (C : RcR) (X : Int → List UInt8) (E : Int → Int) (f : Bool) (l : List Int) (i : Int) (q v : Nat) (rows : List (List AVal)) (D : List (FuncId × List AVal)) (k : Kont) : lturn Tryd.prog (layRr0 C X E) (rrFH R) 54 4 [3,4,5] [] [3] [] (stL 29 [3,4,5] [.own 0 0 q v false, encL f ichRow 0 l, .int .i64 i] [] [] [.arr 1 rows v] D) k = (
 let c0 : Bool := decide (i < (↑l.length : Int));
 let n1 : Int := l.getD i.toNat 0;
 let m2 : Nat := q + (List.map (fun (c : UInt8) => [AVal.int IntKind.u8 (↑c.toNat : Int)]) (X n1)).length;
 let m3 : Nat := v + 1;
  bif c0 then
  bif decide (0 ≤ i) && c0 then
  bif decide (0 ≤ n1 ∧ n1 ≤ 2147483647) then
  bif v == v && q == rows.length && decide ((2 * m2 + 1000) * 1 ≤ 281474976710656) && true then
  k AExit.normal
  (stL 29 [3, 4, 5]
  [AVal.own 0 0 m2 m3 false, AVal.list f l.length fun (i : Nat) => ichRow (l.getD i 0),
  AVal.int IntKind.i64 (IntKind.i64.wrap (i + 1))]
  [] []
  [Obj.arr 1 (rows.append (List.map (fun (c : UInt8) => [AVal.int IntKind.u8 (↑c.toNat : Int)]) (X n1))) m3]
  D)
  else none
  else none
  else none
  else k (AExit.exit 0) (stL 29 [3] [AVal.own 0 0 q v false] [] [] [Obj.arr 1 rows v] D)) := by kernel_rfl
noncomputable def layRr (C : RcR) (X : Int → List UInt8) (E : Int → Int) (R : RrR) : Lay := (layRr0 C X E).addL 54 (rrFH R)
theorem rr_fun (C : RcR) (X : Int → List UInt8) (E : Int → Int) (R : RrR) (s : List UInt8) (k : Out → Ans) : iFun Tryd.prog ((layRr C X E R).hd Tryd.prog) (layRr C X E R).fhs 0 54 [.str s] [] k = (
 let m0 : Nat :=
  (decL (fun (r : List AVal) => intOf (r.getD 0 AVal.undef))
  (AVal.list false (C s).length fun (i : Nat) => ichRow ((C s).getD i 0))).length;
 let m1 : Nat :=
  (R
  (decL (fun (r : List AVal) => intOf (r.getD 0 AVal.undef))
  (AVal.list false (C s).length fun (i : Nat) => ichRow ((C s).getD i 0)))).snd;
 let l2 : List UInt8 :=
  (R
  (decL (fun (r : List AVal) => intOf (r.getD 0 AVal.undef))
  (AVal.list false (C s).length fun (i : Nat) => ichRow ((C s).getD i 0)))).fst;
 let m3 : Nat := l2.length;
  bif decide (s.length ≤ 1099511627776) then
  bif
  tst
  ((Int.toNat 0 = 0 ∧
  m0 ≤ 17592186044416 ∧
  okCh
  (decL (fun (r : List AVal) => intOf (r.getD 0 AVal.undef))
  (AVal.list false (C s).length fun (i : Nat) => ichRow ((C s).getD i 0)))) ∧
  SubTL
  [AVal.list true 0 fun (x : Nat) => [],
  AVal.list false (C s).length fun (i : Nat) => ichRow ((C s).getD i 0), AVal.int IntKind.i64 0]
  [AVal.list true 0 fun (x : Nat) => [],
  AVal.list false m0 fun (i : Nat) =>
  ichRow
  ((decL (fun (r : List AVal) => intOf (r.getD 0 AVal.undef))
  (AVal.list false (C s).length fun (i : Nat) => ichRow ((C s).getD i 0))).getD
  i 0),
  AVal.int IntKind.i64 (↑(Int.toNat 0) : Int)] ∧
  ([] : List (List AVal)) = [] ∧ ([] : Heap) = []) then
  bif
  decL (fun (r : List AVal) => intOf (r.getD 0 AVal.undef))
  (AVal.list false (C s).length fun (i : Nat) => ichRow ((C s).getD i 0)) ==
  [] then
  k (Out.ret (AVal.str []) [])
  else
  bif
  m1 == m1 && true &&
  decide (0 + m3 ≤ (List.map (fun (c : UInt8) => [AVal.int IntKind.u8 (↑c.toNat : Int)]) l2).length) &&
  (List.take m3 (List.drop 0 (List.map (fun (c : UInt8) => [AVal.int IntKind.u8 (↑c.toNat : Int)]) l2))).all
  fun (r : List AVal) =>
  match r with
  | [v] => isInt IntKind.u8 v
  | x => false then
  k
  (Out.ret
  (AVal.str
  (List.map (fun (r : List AVal) => UInt8.ofNat (intOf (r.getD 0 AVal.undef)).toNat)
  (List.take m3 (List.drop 0 (List.map (fun (c : UInt8) => [AVal.int IntKind.u8 (↑c.toNat : Int)]) l2)))))
  [Obj.arr 1 (List.map (fun (c : UInt8) => [AVal.int IntKind.u8 (↑c.toNat : Int)]) l2) m1])
  else none
  else none
  else none) := by kernel_rfl
/- Escape -/
def ursTold (R : List UInt8 → List UInt8) : FSp := mkFS [.s] (fun xs => decide ((aS xs 0).length ≤ 1073741824)) (fun xs k => k (.ret (.str (R (aS xs 0))) []))
def layRe0 (R : List UInt8 → List UInt8) : Lay := Lay.nil.addF 54 (ursTold R)
abbrev ReR := List UInt8 → List UInt8 × Nat
noncomputable def reSp (R : ReR) : LSp := mkL (fun vs _ H => (aS vs 0, (aI vs 2).toNat)) (fun x => x.2 = 0 ∧ x.1.length ≤ 17592186044416) (fun x => [.str x.1, nilList, .int .i64 (x.2 : Nat)]) (fun _ => []) (fun _ => [])
  (fun x k => cond (x.1 == []) (k (.exit 0) [nilList] [] []) (k (.exit 0) [.own 0 0 (R x.1).1.length (R x.1).2 false] [] [.arr 1 ((R x.1).1.map byteRow) (R x.1).2]))
noncomputable def reFH (R : ReR) : FH := .of [(4, loopSpec 49 [3,4,5] [] [4] [] (reSp R))]
theorem re_s0 (R : ReR) (W : List UInt8 → List UInt8) (s : List UInt8) (i : Int) (D : List (FuncId × List AVal)) (k : Kont) : lturn Tryd.prog (layRe0 W) (reFH R) 24 4 [3,4,5] [] [4] [] (stL 49 [3,4,5] [.str s, nilList, .int .i64 i] [] [] [] D) k = (
 let c0 : Bool := decide (i < (↑s.length : Int));
 let c1 : Bool := decide (0 ≤ i) && c0;
 let n2 : Int := (↑(s.getD i.toNat 0).toNat : Int);
  bif c0 then
  bif c1 then
  bif n2 == 38 then
  k AExit.normal
  (stL 49 [3, 4, 5] [AVal.str s, AVal.own 0 0 5 0 false, AVal.int IntKind.i64 (IntKind.i64.wrap (i + 1))] [] []
  [Obj.arr 1
  [[AVal.int IntKind.u8 38], [AVal.int IntKind.u8 97], [AVal.int IntKind.u8 109], [AVal.int IntKind.u8 112],
  [AVal.int IntKind.u8 59]]
  0]
  D)
  else
  bif n2 == 60 then
  k AExit.normal
  (stL 49 [3, 4, 5] [AVal.str s, AVal.own 0 0 4 0 false, AVal.int IntKind.i64 (IntKind.i64.wrap (i + 1))] [] []
  [Obj.arr 1
  [[AVal.int IntKind.u8 38], [AVal.int IntKind.u8 108], [AVal.int IntKind.u8 116],
  [AVal.int IntKind.u8 59]]
  0]
  D)
  else
  bif n2 == 62 then
  k AExit.normal
  (stL 49 [3, 4, 5] [AVal.str s, AVal.own 0 0 4 0 false, AVal.int IntKind.i64 (IntKind.i64.wrap (i + 1))] []
  []
  [Obj.arr 1
  [[AVal.int IntKind.u8 38], [AVal.int IntKind.u8 103], [AVal.int IntKind.u8 116],
  [AVal.int IntKind.u8 59]]
  0]
  D)
  else
  bif n2 == 34 then
  k AExit.normal
  (stL 49 [3, 4, 5] [AVal.str s, AVal.own 0 0 5 0 false, AVal.int IntKind.i64 (IntKind.i64.wrap (i + 1))] []
  []
  [Obj.arr 1
  [[AVal.int IntKind.u8 38], [AVal.int IntKind.u8 35], [AVal.int IntKind.u8 51],
  [AVal.int IntKind.u8 52], [AVal.int IntKind.u8 59]]
  0]
  D)
  else
  bif n2 == 39 then
  k AExit.normal
  (stL 49 [3, 4, 5] [AVal.str s, AVal.own 0 0 5 0 false, AVal.int IntKind.i64 (IntKind.i64.wrap (i + 1))]
  [] []
  [Obj.arr 1
  [[AVal.int IntKind.u8 38], [AVal.int IntKind.u8 35], [AVal.int IntKind.u8 51],
  [AVal.int IntKind.u8 57], [AVal.int IntKind.u8 59]]
  0]
  D)
  else
  bif n2 == 43 then
  k AExit.normal
  (stL 49 [3, 4, 5]
  [AVal.str s, AVal.own 0 0 5 0 false, AVal.int IntKind.i64 (IntKind.i64.wrap (i + 1))] [] []
  [Obj.arr 1
  [[AVal.int IntKind.u8 38], [AVal.int IntKind.u8 35], [AVal.int IntKind.u8 52],
  [AVal.int IntKind.u8 51], [AVal.int IntKind.u8 59]]
  0]
  D)
  else
  bif c1 then
  k AExit.normal
  (stL 49 [3, 4, 5]
  [AVal.str s, AVal.own 0 0 (0 + 1) 0 false, AVal.int IntKind.i64 (IntKind.i64.wrap (i + 1))] [] []
  [Obj.arr 1 [[AVal.int IntKind.u8 n2]] 0] D)
  else none
  else none
  else k (AExit.exit 0) (stL 49 [4] [AVal.list true 0 fun (x : Nat) => []] [] [] [] D)) := by kernel_rfl
theorem re_s1 (R : ReR) (W : List UInt8 → List UInt8) (s : List UInt8) (i : Int) (q v : Nat) (rows : List (List AVal)) (D : List (FuncId × List AVal)) (k : Kont) : lturn Tryd.prog (layRe0 W) (reFH R) 24 4 [3,4,5] [] [4] [] (stL 49 [3,4,5] [.str s, .own 0 0 q v false, .int .i64 i] [] [] [.arr 1 rows v] D) k = (
 let c0 : Bool := decide (i < (↑s.length : Int));
 let c1 : Bool := decide (0 ≤ i) && c0;
 let n2 : Int := (↑(s.getD i.toNat 0).toNat : Int);
 let c3 : Bool := v == v && q == rows.length;
 let m4 : Nat := q + 5;
 let c5 : Bool := c3 && decide ((2 * m4 + 1000) * 1 ≤ 281474976710656) && true;
 let m6 : Nat := v + 1;
 let m7 : Nat := q + 4;
 let c8 : Bool := c3 && decide ((2 * m7 + 1000) * 1 ≤ 281474976710656) && true;
 let m9 : Nat := q + 1;
  bif c0 then
  bif c1 then
  bif n2 == 38 then
  bif c5 then
  k AExit.normal
  (stL 49 [3, 4, 5] [AVal.str s, AVal.own 0 0 m4 m6 false, AVal.int IntKind.i64 (IntKind.i64.wrap (i + 1))] []
  []
  [Obj.arr 1
  (rows.append
  [[AVal.int IntKind.u8 38], [AVal.int IntKind.u8 97], [AVal.int IntKind.u8 109],
  [AVal.int IntKind.u8 112], [AVal.int IntKind.u8 59]])
  m6]
  D)
  else none
  else
  bif n2 == 60 then
  bif c8 then
  k AExit.normal
  (stL 49 [3, 4, 5] [AVal.str s, AVal.own 0 0 m7 m6 false, AVal.int IntKind.i64 (IntKind.i64.wrap (i + 1))] []
  []
  [Obj.arr 1
  (rows.append
  [[AVal.int IntKind.u8 38], [AVal.int IntKind.u8 108], [AVal.int IntKind.u8 116],
  [AVal.int IntKind.u8 59]])
  m6]
  D)
  else none
  else
  bif n2 == 62 then
  bif c8 then
  k AExit.normal
  (stL 49 [3, 4, 5] [AVal.str s, AVal.own 0 0 m7 m6 false, AVal.int IntKind.i64 (IntKind.i64.wrap (i + 1))]
  [] []
  [Obj.arr 1
  (rows.append
  [[AVal.int IntKind.u8 38], [AVal.int IntKind.u8 103], [AVal.int IntKind.u8 116],
  [AVal.int IntKind.u8 59]])
  m6]
  D)
  else none
  else
  bif n2 == 34 then
  bif c5 then
  k AExit.normal
  (stL 49 [3, 4, 5]
  [AVal.str s, AVal.own 0 0 m4 m6 false, AVal.int IntKind.i64 (IntKind.i64.wrap (i + 1))] [] []
  [Obj.arr 1
  (rows.append
  [[AVal.int IntKind.u8 38], [AVal.int IntKind.u8 35], [AVal.int IntKind.u8 51],
  [AVal.int IntKind.u8 52], [AVal.int IntKind.u8 59]])
  m6]
  D)
  else none
  else
  bif n2 == 39 then
  bif c5 then
  k AExit.normal
  (stL 49 [3, 4, 5]
  [AVal.str s, AVal.own 0 0 m4 m6 false, AVal.int IntKind.i64 (IntKind.i64.wrap (i + 1))] [] []
  [Obj.arr 1
  (rows.append
  [[AVal.int IntKind.u8 38], [AVal.int IntKind.u8 35], [AVal.int IntKind.u8 51],
  [AVal.int IntKind.u8 57], [AVal.int IntKind.u8 59]])
  m6]
  D)
  else none
  else
  bif n2 == 43 then
  bif c5 then
  k AExit.normal
  (stL 49 [3, 4, 5]
  [AVal.str s, AVal.own 0 0 m4 m6 false, AVal.int IntKind.i64 (IntKind.i64.wrap (i + 1))] [] []
  [Obj.arr 1
  (rows.append
  [[AVal.int IntKind.u8 38], [AVal.int IntKind.u8 35], [AVal.int IntKind.u8 52],
  [AVal.int IntKind.u8 51], [AVal.int IntKind.u8 59]])
  m6]
  D)
  else none
  else
  bif c1 then
  bif c3 && decide ((2 * m9 + 1000) * 1 ≤ 281474976710656) && true then
  k AExit.normal
  (stL 49 [3, 4, 5]
  [AVal.str s, AVal.own 0 0 m9 m6 false, AVal.int IntKind.i64 (IntKind.i64.wrap (i + 1))] [] []
  [Obj.arr 1 (rows.append [[AVal.int IntKind.u8 n2]]) m6] D)
  else none
  else none
  else none
  else k (AExit.exit 0) (stL 49 [4] [AVal.own 0 0 q v false] [] [] [Obj.arr 1 rows v] D)) := by kernel_rfl
noncomputable def layRe (W : List UInt8 → List UInt8) (R : ReR) : Lay := (layRe0 W).addL 24 (reFH R)
theorem re_fun (W : List UInt8 → List UInt8) (R : ReR) (s : List UInt8) (k : Out → Ans) : iFun Tryd.prog ((layRe W R).hd Tryd.prog) (layRe W R).fhs 0 24 [.str s] [] k = (
 let m0 : Nat := (R (W s)).snd;
 let l1 : List UInt8 := (R (W s)).fst;
 let m2 : Nat := l1.length;
  bif decide (s.length ≤ 1073741824) then
  bif
  tst
  ((Int.toNat 0 = 0 ∧ (W s).length ≤ 17592186044416) ∧
  SubTL [AVal.str (W s), AVal.list true 0 fun (x : Nat) => [], AVal.int IntKind.i64 0]
  [AVal.str (W s), AVal.list true 0 fun (x : Nat) => [], AVal.int IntKind.i64 (↑(Int.toNat 0) : Int)] ∧
  ([] : List (List AVal)) = [] ∧ ([] : Heap) = []) then
  bif W s == [] then k (Out.ret (AVal.str []) [])
  else
  bif
  m0 == m0 && true &&
  decide (0 + m2 ≤ (List.map (fun (c : UInt8) => [AVal.int IntKind.u8 (↑c.toNat : Int)]) l1).length) &&
  (List.take m2 (List.drop 0 (List.map (fun (c : UInt8) => [AVal.int IntKind.u8 (↑c.toNat : Int)]) l1))).all
  fun (r : List AVal) =>
  match r with
  | [v] => isInt IntKind.u8 v
  | x => false then
  k
  (Out.ret
  (AVal.str
  (List.map (fun (r : List AVal) => UInt8.ofNat (intOf (r.getD 0 AVal.undef)).toNat)
  (List.take m2 (List.drop 0 (List.map (fun (c : UInt8) => [AVal.int IntKind.u8 (↑c.toNat : Int)]) l1)))))
  [Obj.arr 1 (List.map (fun (c : UInt8) => [AVal.int IntKind.u8 (↑c.toNat : Int)]) l1) m0])
  else none
  else none
  else none) := by kernel_rfl
end Go.Mu
set_option linter.unusedVariables false
set_option linter.unusedSimpArgs false
set_option maxRecDepth 100000
namespace Go.Mu
open Go Go.Proofs
variable {P : Program}
theorem Lay.OK.callN {L : Lay} (h : L.OK P) {f : FuncId} {xs : List AVal} {v : AVal} {G : Heap} (F : Nat) (hv : refsD 6 0 v = true) (hr : ∀ k, iFun P (L.hd P) L.fhs F f xs [] k = k (.ret v G)) : CallOK P f xs [] (.ret v []) := by
  refine CallOK.shrink (H := []) (H' := []) (G := G) ?_ (Nat.le_refl _) hv (fun x hx => by cases hx)
  classical
  have hz : iFun P (L.hd P) L.fhs F f xs [] (fun o' => if o' = .ret v G then some (.ret v G) else none) = some (.ret v G) := (hr _).trans (by simp)
  obtain ⟨o', h1, h2⟩ := iFun_sound h.hok (fun g => ⟨regions_ok h.hok _, h.l g⟩) hz
  split at h2
  · rename_i e; rw [e] at h1; exact h1
  · simp at h2
theorem rdcTold_ok : ∀ xs H k out, rdTold rdP xs H k = some out → ∃ o, CallOK Tryd.prog 165 xs H o ∧ k o = some out := mkFS_ok fun ys xs e h => by
  obtain ⟨s, rfl⟩ : ∃ s, xs = [.str s] := ⟨_, e⟩
  have h2 : s.length ≤ 1099511627776 := of_decide_eq_true h
  exact ⟨_, fun k => rfl, layRd0_ok.callN (G := []) 9 rfl (fun k => rdec_call s h2 k)⟩
theorem layRc0_ok : (layRc0 rdP).OK Tryd.prog := Lay.nil_ok.addF rdcTold_ok
/- Chars -/
theorem rep_of (t : ByteArray) : repC t = if decC t ≤ 0 then 65533 else decC t := by
  unfold repC decC
  by_cases h : (Lib.decodeGo t).1 = 65533 ∧ (Lib.decodeGo t).2 < 2
  · rw [if_pos h, h.1]; simp
  · rw [if_neg h]
    by_cases h0 : (Lib.decodeGo t).1 = 0
    · rw [if_pos h0, if_pos (by omega)]
    · rw [if_neg h0, if_neg (by omega)]
theorem ba_ext (s : List UInt8) (w : Nat) : (ba s).extract w (ba s).size = ba (s.drop w) := by
  apply ByteArray.ext
  rw [ByteArray.data_extract]
  apply Array.ext'
  simp [ba, ByteArray.size]
  exact List.take_of_length_le (by simp)
theorem dgo_w (s : List UInt8) (h : s ≠ []) : 1 ≤ (Lib.decodeGo (ba s)).2 ∧ (Lib.decodeGo (ba s)).2 ≤ s.length := by
  have hl : 0 < s.length := List.length_pos_iff.2 h
  have hz : ¬ (ba s).size = 0 := by rw [ba_size]; omega
  have hdG : Lib.decodeGo (ba s) = Utf8.decode (ba s) 0 := by unfold Lib.decodeGo; rw [if_neg hz]
  rw [hdG]
  exact ⟨Lib.width_pos (ba s) 0, Lib.width_le (ba s) (by rw [ba_size]; omega)⟩
def chL (m : Nat) (s : List UInt8) : List Int := chF m (ba s)
theorem chL_cons (m : Nat) (s : List UInt8) (h : s ≠ []) : chL (m + 1) s = (if (rdP s).1 ≤ 0 then 65533 else (rdP s).1) :: chL m (s.drop (rdP s).2) := by
  have hl : 0 < s.length := List.length_pos_iff.2 h
  unfold chL
  rw [chF, if_neg (by rw [ba_size]; omega), ba_ext, rep_of]
  rfl
theorem chL_nil (m : Nat) : chL m [] = [] := by
  cases m with
  | zero => rfl
  | succ m => unfold chL; rw [chF, if_pos (by rfl)]
theorem rdP_w (s : List UInt8) (h : s ≠ []) : 1 ≤ (rdP s).2 ∧ (rdP s).2 ≤ s.length := dgo_w s h
theorem chL_len : ∀ (m : Nat) (s : List UInt8), (chL m s).length ≤ s.length
  | 0, s => Nat.zero_le _
  | m + 1, s => by
    by_cases h : s = []
    · subst h; rw [chL_nil]; exact Nat.le_refl _
    · have hw := rdP_w s h
      rw [chL_cons m s h, List.length_cons]
      have := chL_len m (s.drop (rdP s).2)
      rw [List.length_drop] at this
      omega
noncomputable abbrev rcTurn := lturn Tryd.prog (layRc0 rdP) (rcFH (fun s => chL s.length s)) 104 3 [0,3,4] [] [3] []
theorem h_row (l : List Int) (c : Int) : (l.map ichRow).append [[AVal.int IntKind.i64 c]] = (l ++ [c]).map ichRow := by
  show l.map ichRow ++ [ichRow c] = _
  rw [List.map_append]; rfl
theorem rc_own (s : List UInt8) (hs : s.length ≤ 1099511627776) : ∀ (m i : Nat) (l : List Int) (v : Nat), s.length - i ≤ m → i ≤ s.length → l.length ≤ i →
    LoopRuns rcTurn 28 [0,3,4] [] [3] [] [.str s, .own 0 0 l.length v false, .int .i64 (i : Nat)] [] [.arr 1 (l.map ichRow) v] (.exit 0) [.own 0 0 (l ++ chL m (s.drop i)).length (v + (chL m (s.drop i)).length) false] [] [.arr 1 ((l ++ chL m (s.drop i)).map ichRow) (v + (chL m (s.drop i)).length)] := by
  have out : ∀ (m i : Nat) (l : List Int) (v : Nat), s.length ≤ i → LoopRuns rcTurn 28 [0,3,4] [] [3] [] [.str s, .own 0 0 l.length v false, .int .i64 (i : Nat)] [] [.arr 1 (l.map ichRow) v] (.exit 0) [.own 0 0 (l ++ chL m (s.drop i)).length (v + (chL m (s.drop i)).length) false] [] [.arr 1 ((l ++ chL m (s.drop i)).map ichRow) (v + (chL m (s.drop i)).length)] := fun m i l v hi => by
    rw [List.drop_eq_nil_of_le hi, chL_nil, List.append_nil]
    refine .stop (by simp) (fun D k => (rc_s1 _ rdP s i l.length v (l.map ichRow) D k).trans ?_)
    simp only [dF (show ¬ (i : Int) < s.length by omega), cond_false]
    rfl
  intro m
  induction m with
  | zero => intro i l v hm hi hl; exact out 0 i l v (by omega)
  | succ m ih =>
    intro i l v hm hi hl
    by_cases hlt : i < s.length
    case neg => exact out (m + 1) i l v (by omega)
    have hne : s.drop i ≠ [] := by
      intro e
      have := congrArg List.length e
      rw [List.length_drop] at this
      simp at this
      omega
    have hdl : (s.drop i).length = s.length - i := List.length_drop
    have hw := rdP_w (s.drop i) hne
    have et : List.drop i (List.take s.length s) = s.drop i := by rw [List.take_length]
    have e2 : IntKind.i64.wrap ((i : Int) + (((rdP (s.drop i)).2 : Nat) : Int)) = ((i + (rdP (s.drop i)).2 : Nat) : Int) := by rw [wrap_of (by omega) (by omega)]; omega
    have hq : (l.length == (l.map ichRow).length) = true := by simp
    have key := fun D k => rc_s1 (fun s => chL s.length s) rdP s i l.length v (l.map ichRow) D k
    simp only [Int.toNat_natCast, et, e2, hq, beq_self_eq_true, dT (show (i : Int) < s.length by omega), dT (show (0 : Int) ≤ i by omega), dT (show (i : Int) ≤ s.length by omega), dT (show (s.length : Int) ≤ s.length by omega), dT (show (s.drop i).length ≤ 1099511627776 by omega), dT (show (2 * (l.length + 1) + 1000) * 8 ≤ 281474976710656 by omega), Bool.and_self, cond_true, h_row] at key
    rw [chL_cons m _ hne, List.drop_drop]
    by_cases hc : (rdP (s.drop i)).1 ≤ 0
    · simp only [dT hc, cond_true] at key
      rw [if_pos hc]
      have ih2 := ih (i + (rdP (s.drop i)).2) (l ++ [65533]) (v + 1) (by omega) (by omega) (by rw [List.length_append, List.length_singleton]; omega)
      rw [List.append_assoc, List.singleton_append] at ih2
      rw [List.length_append, List.length_singleton] at ih2
      rw [List.length_cons, show v + ((chL m (List.drop (i + (rdP (List.drop i s)).2) s)).length + 1) = v + 1 + (chL m (List.drop (i + (rdP (List.drop i s)).2) s)).length by omega]
      exact .step key ih2
    · simp only [dF hc, cond_false] at key
      rw [if_neg hc]
      have ih2 := ih (i + (rdP (s.drop i)).2) (l ++ [(rdP (s.drop i)).1]) (v + 1) (by omega) (by omega) (by rw [List.length_append, List.length_singleton]; omega)
      rw [List.append_assoc, List.singleton_append] at ih2
      rw [List.length_append, List.length_singleton] at ih2
      rw [List.length_cons, show v + ((chL m (List.drop (i + (rdP (List.drop i s)).2) s)).length + 1) = v + 1 + (chL m (List.drop (i + (rdP (List.drop i s)).2) s)).length by omega]
      exact .step key ih2
theorem rcSp_ok : SpOK rcTurn 28 [0,3,4] [] [3] [] (rcSp (fun s => chL s.length s)) := mkL_ok fun a h => by
  obtain ⟨s, i⟩ := a
  obtain ⟨h1, h2⟩ := h
  simp only at h1 h2
  subst h1
  show ∃ e vs bs H', (∀ k : AExit → List AVal → List (List AVal) → Heap → Ans, cond (s == []) _ _ = k e vs bs H') ∧ _
  by_cases hs0 : s = []
  · subst hs0
    exact ⟨_, _, _, _, fun k => rfl, .stop (by simp) (fun D k => (rc_s0 _ rdP [] 0 D k).trans rfl)⟩
  · have hb : (s == []) = false := by simpa using hs0
    have hl : 0 < s.length := List.length_pos_iff.2 hs0
    have hw := rdP_w s hs0
    rw [hb]
    refine ⟨_, _, _, _, fun k => rfl, ?_⟩
    have et : List.drop (Int.toNat 0) (List.take s.length s) = s := by rw [List.take_length]; rfl
    have e2 : IntKind.i64.wrap ((0 : Int) + (((rdP s).2 : Nat) : Int)) = (((rdP s).2 : Nat) : Int) := by rw [wrap_of (by omega) (by omega)]; omega
    have key := fun D k => rc_s0 (fun s => chL s.length s) rdP s 0 D k
    simp only [Int.toNat_natCast, et, e2, Nat.zero_add, dT (show (0 : Int) < s.length by omega), dT (show (0 : Int) ≤ 0 by omega), dT (show (0 : Int) ≤ s.length by omega), dT (show (s.length : Int) ≤ s.length by omega), dT (show s.length ≤ 1099511627776 by omega), Bool.and_self, cond_true] at key
    have e3 : chL s.length s = (if (rdP s).1 ≤ 0 then 65533 else (rdP s).1) :: chL (s.length - 1) (s.drop (rdP s).2) := by
      obtain ⟨m, hm⟩ : ∃ m, s.length = m + 1 := ⟨s.length - 1, by omega⟩
      rw [hm, chL_cons m s hs0, Nat.add_sub_cancel]
    show LoopRuns _ _ _ _ _ _ _ _ _ _ [.own 0 0 (chL s.length s).length ((chL s.length s).length - 1) false] _ [.arr 1 ((chL s.length s).map ichRow) ((chL s.length s).length - 1)]
    rw [e3]
    by_cases hc : (rdP s).1 ≤ 0
    · simp only [dT hc, cond_true] at key
      rw [if_pos hc]
      have ih := rc_own s (by omega) (s.length - 1) (rdP s).2 [65533] 0 (by omega) (by omega) (by show 1 ≤ _; omega)
      rw [List.singleton_append, Nat.zero_add] at ih
      exact .step key ih
    · simp only [dF hc, cond_false] at key
      rw [if_neg hc]
      have ih := rc_own s (by omega) (s.length - 1) (rdP s).2 [(rdP s).1] 0 (by omega) (by omega) (by show 1 ≤ _; omega)
      rw [List.singleton_append, Nat.zero_add] at ih
      exact .step key ih
theorem layRc_ok : (layRc rdP (fun s => chL s.length s)).OK Tryd.prog := layRc0_ok.loop1 (id := 3) (by kernel_rfl) (by kernel_rfl) (by kernel_rfl) rcSp_ok
def chP (s : List UInt8) : List Int := chL s.length s
theorem sub_ich (l : List Int) : Sub (.list false l.length (fun i => (l.map ichRow).getD i [])) (encL false ichRow 0 l) := by
  refine Sub.list (fun h => h) (fun i hi => ?_)
  have : (l.map ichRow).getD i [] = ichRow (l.getD i 0) := by
    rw [List.getD_eq_getElem?_getD, List.getD_eq_getElem?_getD, List.getElem?_map, List.getElem?_eq_getElem hi]
    rfl
  rw [this]
  exact .refl _
theorem rc_ok (s : List UInt8) (hs : s.length ≤ 1099511627776) : CallOK Tryd.prog 104 [.str s] [] (.ret (encL false ichRow 0 (chP s)) []) := by
  have key := fun k => (rc_fun rdP (fun s => chL s.length s) s k).trans ((congrArg (fun c => cond c _ none) (tst_true ⟨⟨rfl, hs⟩, .refl _, by trivial⟩)).trans (cond_true _ _))
  by_cases h0 : s = []
  · subst h0
    have hc : CallOK Tryd.prog 104 [.str []] [] (.ret (.list true 0 fun (x : Nat) => []) []) := layRc_ok.callF (G := []) rfl key
    exact hc.sub (.refl _) ⟨Sub.list (fun h => by cases h) (fun i hi => by omega), rfl⟩
  · have hb : (s == []) = false := by simpa using h0
    rw [hb] at key
    have hc : CallOK Tryd.prog 104 [.str s] [] (.ret (.own 0 0 (chP s).length ((chP s).length - 1) false) [.arr 1 ((chP s).map ichRow) ((chP s).length - 1)]) := layRc_ok.call key
    have fz : freezeV [.arr 1 ((chP s).map ichRow) ((chP s).length - 1)] 2 (.own 0 0 (chP s).length ((chP s).length - 1) false) = some (.list false (chP s).length (fun i => ((chP s).map ichRow).getD i [])) := by
      refine freezeW (sz := 1) (rows := (chP s).map ichRow) (rows' := (chP s).map ichRow) rfl (by simp) ?_
      rw [List.drop_zero, List.take_of_length_le (by simp)]
      exact freeze_pures _ 0 _ (fun r hr => by
        obtain ⟨a, _, rfl⟩ := List.mem_map.1 hr
        rfl)
    exact (hc.freeze (d := 2) fz).sub (.refl _) ⟨sub_ich (chP s), rfl⟩
theorem rcTold_ok : ∀ xs H k out, rpcTold chP xs H k = some out → ∃ o, CallOK Tryd.prog 104 xs H o ∧ k o = some out := mkFS_ok fun ys xs e h => by
  obtain ⟨s, rfl⟩ : ∃ s, xs = [.str s] := ⟨_, e⟩
  exact ⟨_, fun k => rfl, rc_ok s (of_decide_eq_true h)⟩
end Go.Mu
set_option linter.unusedVariables false
set_option linter.unusedSimpArgs false
namespace Go.Mu
open Go
theorem seq_runs {turn : St → Kont → Ans} {n : Nat} {l m lx mx : List Nat} (vs : Nat → List AVal) (bs : Nat → List (List AVal)) (H : Nat → Heap) (N : Nat) {e : AExit} {vs' : List AVal} {bs' : List (List AVal)} {H' : Heap} (he : e ≠ .normal)
    (h : ∀ i, i < N → ∀ D k, turn (stL n l (vs i) m (bs i) (H i) D) k = k .normal (stL n l (vs (i + 1)) m (bs (i + 1)) (H (i + 1)) D))
    (hN : ∀ D k, turn (stL n l (vs N) m (bs N) (H N) D) k = k e (stL n lx vs' mx bs' H' D)) :
    LoopRuns turn n l m lx mx (vs 0) (bs 0) (H 0) e vs' bs' H' := by
  have key : ∀ j i, i + j = N → LoopRuns turn n l m lx mx (vs i) (bs i) (H i) e vs' bs' H' := by
    intro j
    induction j with
    | zero => intro i hi; obtain rfl : i = N := by omega
              exact .stop he hN
    | succ j ih => intro i hi; exact .step (h i (by omega)) (ih (i + 1) (by omega))
  exact key N 0 (by omega)
theorem app_runs {turn : St → Kont → Ans} {n : Nat} {l m lx mx : List Nat} {sz : Nat} (mk : AVal → Nat → List AVal) (out : AVal → List AVal) (T : Nat → List (List AVal)) (N : Nat) {e : AExit} (he : e ≠ .normal)
    (h0 : 0 < N → ∀ D k, turn (stL n l (mk nilList 0) m [] [] D) k = k .normal (stL n l (mk (.own 0 0 (T 1).length 0 false) 1) m [] [.arr sz (T 1) 0] D))
    (h1 : ∀ i, i + 1 < N → ∀ D k, turn (stL n l (mk (.own 0 0 (T (i + 1)).length i false) (i + 1)) m [] [.arr sz (T (i + 1)) i] D) k = k .normal (stL n l (mk (.own 0 0 (T (i + 2)).length (i + 1) false) (i + 2)) m [] [.arr sz (T (i + 2)) (i + 1)] D))
    (hz : N = 0 → ∀ D k, turn (stL n l (mk nilList 0) m [] [] D) k = k e (stL n lx (out nilList) mx [] [] D))
    (hN : ∀ i, N = i + 1 → ∀ D k, turn (stL n l (mk (.own 0 0 (T (i + 1)).length i false) (i + 1)) m [] [.arr sz (T (i + 1)) i] D) k = k e (stL n lx (out (.own 0 0 (T (i + 1)).length i false)) mx [] [.arr sz (T (i + 1)) i] D)) :
    LoopRuns turn n l m lx mx (mk nilList 0) [] [] e (out (if N = 0 then nilList else .own 0 0 (T N).length (N - 1) false)) [] (if N = 0 then [] else [.arr sz (T N) (N - 1)]) := by
  cases N with
  | zero => exact .stop he (hz rfl)
  | succ N =>
    rw [if_neg (by omega), if_neg (by omega)]
    exact seq_runs (fun i => match i with | 0 => mk nilList 0 | i + 1 => mk (.own 0 0 (T (i + 1)).length i false) (i + 1)) (fun _ => []) (fun i => match i with | 0 => [] | i + 1 => [.arr sz (T (i + 1)) i]) (N + 1) he
      (fun i hi D k => match i with | 0 => h0 (by omega) D k | i + 1 => h1 i (by omega) D k) (hN N rfl)
theorem take_flat {α β : Type} (l : List α) (d : α) (f : α → List β) (i : Nat) (h : i < l.length) : (l.take (i + 1)).flatMap f = (l.take i).flatMap f ++ f (l.getD i d) := by
  rw [List.take_add_one, List.flatMap_append, List.getElem?_eq_getElem h]
  simp [List.getD_eq_getElem?_getD, List.getElem?_eq_getElem h]
theorem take_map {α β : Type} (l : List α) (d : α) (f : α → β) (i : Nat) (h : i < l.length) : (l.take (i + 1)).map f = (l.take i).map f ++ [f (l.getD i d)] := by
  rw [List.take_add_one, List.map_append, List.getElem?_eq_getElem h]
  simp [List.getD_eq_getElem?_getD, List.getElem?_eq_getElem h]
theorem flat_len {α β : Type} (f : α → List β) (b : Nat) (h : ∀ a, (f a).length ≤ b) : ∀ l : List α, (l.flatMap f).length ≤ b * l.length
  | [] => by simp
  | a :: l => by
    have := flat_len f b h l
    have := h a
    rw [List.flatMap_cons, List.length_append, List.length_cons, Nat.mul_add, Nat.mul_one]
    omega
theorem flat_len_take {α β : Type} (f : α → List β) (b : Nat) (h : ∀ a, (f a).length ≤ b) (l : List α) (i : Nat) : ((l.take i).flatMap f).length ≤ b * i := by
  refine Nat.le_trans (flat_len f b h _) (Nat.mul_le_mul_left b ?_)
  rw [List.length_take]; omega
theorem find_runs {turn : St → Kont → Ans} {n : Nat} {l m lx mx : List Nat} (vs : Nat → List AVal) (bs : List (List AVal)) (H : Heap) (hit : Nat → Bool) (N : Nat) {e1 : AExit} {v1 : Nat → List AVal} {b1 : Nat → List (List AVal)} {H1 : Nat → Heap} (h1 : e1 ≠ .normal)
    (h : ∀ i, i < N → ∀ D k, turn (stL n l (vs i) m bs H D) k = cond (hit i) (k e1 (stL n lx (v1 i) mx (b1 i) (H1 i) D)) (k .normal (stL n l (vs (i + 1)) m bs H D))) {j : Nat} (hf : (List.range N).find? hit = some j) :
    LoopRuns turn n l m lx mx (vs 0) bs H e1 (v1 j) (b1 j) (H1 j) := by
  obtain ⟨hj, aa, bs', hs, hn⟩ := List.find?_eq_some_iff_append.1 hf
  have hjN : j < N ∧ ∀ i, i < j → hit i = false := by
    have hlen : aa.length = j := by
      have := congrArg (fun l => l[aa.length]?) hs
      simp at this
      have h2 := List.getElem?_eq_some_iff.1 this
      obtain ⟨h3, h4⟩ := h2
      simpa using h4
    have hmem : j ∈ List.range N := by rw [hs]; simp
    refine ⟨by simpa using hmem, fun i hi => ?_⟩
    have h5 : i ∈ aa := by
      have : aa = (List.range N).take aa.length := by rw [hs]; simp
      rw [this, hlen]
      have hjN : j < N := by simpa using hmem
      refine List.mem_iff_getElem.2 ⟨i, by rw [List.length_take, List.length_range]; omega, by simp⟩
    simpa using hn i h5
  have key : ∀ q i, i + q = j → LoopRuns turn n l m lx mx (vs i) bs H e1 (v1 j) (b1 j) (H1 j) := by
    intro q
    induction q with
    | zero => intro i hi; obtain rfl : i = j := by omega
              exact .stop h1 (fun D k => (h i hjN.1 D k).trans (by rw [hj]; rfl))
    | succ q ih => intro i hi; exact .step (fun D k => (h i (by omega) D k).trans (by rw [hjN.2 i (by omega)]; rfl)) (ih (i + 1) (by omega))
  exact key j 0 (by omega)
theorem none_runs {turn : St → Kont → Ans} {n : Nat} {l m lx mx : List Nat} (vs : Nat → List AVal) (bs : List (List AVal)) (H : Heap) (hit : Nat → Bool) (N : Nat) {e0 e1 : AExit} {v0 : List AVal} {b0 : List (List AVal)} {H0 : Heap} {v1 : Nat → List AVal} {b1 : Nat → List (List AVal)} {H1 : Nat → Heap} (h0 : e0 ≠ .normal)
    (h : ∀ i, i < N → ∀ D k, turn (stL n l (vs i) m bs H D) k = cond (hit i) (k e1 (stL n lx (v1 i) mx (b1 i) (H1 i) D)) (k .normal (stL n l (vs (i + 1)) m bs H D)))
    (hN : ∀ D k, turn (stL n l (vs N) m bs H D) k = k e0 (stL n lx v0 mx b0 H0 D)) (hf : (List.range N).find? hit = none) :
    LoopRuns turn n l m lx mx (vs 0) bs H e0 v0 b0 H0 :=
  seq_runs vs (fun _ => bs) (fun _ => H) N h0 (fun i hi D k => (h i hi D k).trans (by
    have := List.find?_eq_none.1 hf i (by simpa using hi)
    rw [show hit i = false by simpa using this]; rfl)) hN
theorem find_any {hit : Nat → Bool} {N : Nat} : ((List.range N).find? hit = none ↔ (List.range N).any hit = false) := by
  rw [List.find?_eq_none, List.any_eq_false]
/- octets' rows -/
theorem bAll (l : List UInt8) : ((l.map byteRow).all fun (r : List AVal) => match r with | [v] => isInt IntKind.u8 v | x => false) = true := by
  refine List.all_eq_true.2 (fun r hr => ?_)
  obtain ⟨c, _, rfl⟩ := List.mem_map.1 hr
  rfl
theorem bBack (l : List UInt8) : (l.map byteRow).map (fun (r : List AVal) => UInt8.ofNat (intOf (r.getD 0 AVal.undef)).toNat) = l := by
  rw [List.map_map]
  conv => rhs; rw [← List.map_id l]
  refine List.map_congr_left (fun c _ => ?_)
  show UInt8.ofNat ((c.toNat : Int)).toNat = c
  rw [Int.toNat_natCast, UInt8.ofNat_toNat]
theorem fin_bytes (t : List UInt8) (v : Nat) (G : Heap) (k : Out → Ans) :
    (bif v == v && true && decide (0 + t.length ≤ (List.map (fun (c : UInt8) => [AVal.int IntKind.u8 (↑c.toNat : Int)]) t).length) && (List.take t.length (List.drop 0 (List.map (fun (c : UInt8) => [AVal.int IntKind.u8 (↑c.toNat : Int)]) t))).all fun (r : List AVal) => match r with | [v] => isInt IntKind.u8 v | x => false then
      k (Out.ret (AVal.str (List.map (fun (r : List AVal) => UInt8.ofNat (intOf (r.getD 0 AVal.undef)).toNat) (List.take t.length (List.drop 0 (List.map (fun (c : UInt8) => [AVal.int IntKind.u8 (↑c.toNat : Int)]) t))))) G)
    else none) = k (.ret (.str t) G) := by
  have e : List.take t.length (List.drop 0 (t.map byteRow)) = t.map byteRow := by rw [List.drop_zero]; exact List.take_of_length_le (by simp)
  have hc : (v == v && true && decide (0 + t.length ≤ (t.map byteRow).length) && (List.take t.length (List.drop 0 (t.map byteRow))).all fun (r : List AVal) => match r with | [v] => isInt IntKind.u8 v | x => false) = true := by
    rw [e, bAll, beq_self_eq_true, dT (show 0 + t.length ≤ (t.map byteRow).length by rw [List.length_map]; omega)]
    rfl
  refine (congrArg (fun c => cond c _ none) hc).trans ((cond_true _ _).trans ?_)
  have g2 : (List.take t.length (List.drop 0 (t.map byteRow))).map (fun (r : List AVal) => UInt8.ofNat (intOf (r.getD 0 AVal.undef)).toNat) = t := by rw [e]; exact bBack t
  exact congrArg (fun t => k (Out.ret (AVal.str t) G)) g2
end Go.Mu
set_option linter.unusedVariables false
set_option linter.unusedSimpArgs false
set_option maxRecDepth 100000
namespace Go.Mu
open Go Go.Proofs
theorem encX_len (c : Int) : (encX c).length ≤ 4 := by
  unfold encX
  cases badR c with
  | true => simp
  | false =>
    have h := (Lib.runeCells_le c).2
    rw [Lib.runeCells_length] at h
    exact h
theorem rows_of (t : List UInt8) : t.map (fun c => [AVal.int IntKind.u8 (c.toNat : Int)]) = t.map byteRow := rfl
def rrR : RrR := fun l => (l.flatMap encX, l.length - 1)
noncomputable abbrev rrTurn := lturn Tryd.prog (layRr0 chP encX encXE) (rrFH rrR) 54 4 [3,4,5] [] [3] []
theorem rrSp_ok : SpOK rrTurn 29 [3,4,5] [] [3] [] (rrSp rrR) := mkL_ok fun a h => by
  obtain ⟨f, l, i⟩ := a
  obtain ⟨h1, h2, h3⟩ := h
  simp only at h1 h2 h3
  subst h1
  have hl := fun i => flat_len_take encX 4 encX_len l i
  have hx := encX_len
  have hc : ∀ i, i < l.length → 0 ≤ l.getD i 0 ∧ l.getD i 0 ≤ 2147483647 := fun i hi => by
    have := h3 (l.getD i 0) (by rw [List.getD_eq_getElem?_getD, List.getElem?_eq_getElem hi]; exact List.getElem_mem hi)
    omega
  have key := app_runs (turn := rrTurn) (n := 29) (l := [3,4,5]) (m := []) (lx := [3]) (mx := []) (sz := 1) (fun a i => [a, encL f ichRow 0 l, .int .i64 (i : Nat)]) (fun a => [a]) (fun i => ((l.take i).flatMap encX).map byteRow) l.length (e := .exit 0) (by simp)
    (fun h D k => by
      refine (rr_s0 rrR chP encX encXE f l ((0 : Nat) : Int) D k).trans ?_
      have e1 : IntKind.i64.wrap (((0 : Nat) : Int) + 1) = ((1 : Nat) : Int) := wrap_add1 (by omega)
      have hx0 := hx (l.getD 0 0)
      simp only [Int.toNat_natCast, e1, rows_of, List.length_map, take_flat l 0 encX 0 h, List.take_zero, List.flatMap_nil, List.nil_append, Nat.zero_add, dT (show ((0 : Nat) : Int) < l.length by omega), dT (show (0 : Int) ≤ ((0 : Nat) : Int) by omega), dT (hc 0 h), dT (show (2 * (encX (l.getD 0 0)).length + 1000) * 1 ≤ 281474976710656 by omega), Bool.or_true, Bool.and_self, cond_true])
    (fun i h D k => by
      refine (rr_s1 rrR chP encX encXE f l ((i + 1 : Nat) : Int) _ i _ D k).trans ?_
      have e1 : IntKind.i64.wrap (((i + 1 : Nat) : Int) + 1) = ((i + 2 : Nat) : Int) := wrap_add1 (by omega)
      have hx0 := hx (l.getD (i + 1) 0)
      have hi := hl (i + 1)
      simp only [Int.toNat_natCast, e1, rows_of, List.length_map, take_flat l 0 encX (i + 1) h, List.map_append, List.length_append, List.append_eq, beq_self_eq_true, dT (show ((i + 1 : Nat) : Int) < l.length by omega), dT (show (0 : Int) ≤ ((i + 1 : Nat) : Int) by omega), dT (hc (i + 1) h), dT (show (2 * (((l.take (i + 1)).flatMap encX).length + (encX (l.getD (i + 1) 0)).length) + 1000) * 1 ≤ 281474976710656 by omega), Bool.or_true, Bool.and_self, cond_true])
    (fun h D k => by
      refine (rr_s0 rrR chP encX encXE f l ((0 : Nat) : Int) D k).trans ?_
      rw [h]
      rfl)
    (fun i h D k => by
      refine (rr_s1 rrR chP encX encXE f l ((i + 1 : Nat) : Int) _ i _ D k).trans ?_
      simp only [dF (show ¬ ((i + 1 : Nat) : Int) < l.length by omega), cond_false])
  rw [List.take_of_length_le (Nat.le_refl _)] at key
  show ∃ e vs bs H', (∀ k : AExit → List AVal → List (List AVal) → Heap → Ans, cond (l == []) _ _ = k e vs bs H') ∧ _
  cases l with
  | nil => exact ⟨_, _, _, _, fun k => rfl, key⟩
  | cons c l =>
    refine ⟨_, _, _, _, fun k => rfl, ?_⟩
    rw [if_neg (by simp), if_neg (by simp), List.length_map] at key
    exact key
theorem layRr0_ok : (layRr0 chP encX encXE).OK Tryd.prog := (Lay.nil_ok.addF rcTold_ok).addF encrTold_ok
theorem layRr_ok : (layRr chP encX encXE rrR).OK Tryd.prog := layRr0_ok.loop1 (id := 4) (by kernel_rfl) (by kernel_rfl) (by kernel_rfl) rrSp_ok
def rpP (s : List UInt8) : List UInt8 := (chP s).flatMap encX
theorem rdP_ok (s : List UInt8) (h : s ≠ []) : (rdP s).1 ≤ 1114111 ∧ ¬ (55296 ≤ (rdP s).1 ∧ (rdP s).1 ≤ 57343) := by
  have hD := dgo_N s h
  have hs := Lib.decodeN_shape s.length (s.getD 0 0).toNat (s.getD 1 0).toNat (s.getD 2 0).toNat (s.getD 3 0).toNat
  rw [← hD] at hs
  unfold rdP decC
  simp only
  split
  · omega
  · rcases hs with ⟨_, e⟩ | ⟨_, _, _, _, e⟩ | ⟨_, _, _, _, _, _, e⟩ | ⟨_, _, _, _, _, _, _, e⟩ | e
    all_goals (rw [e]; simp only; omega)
theorem chL_ok : ∀ (m : Nat) (s : List UInt8), okCh (chL m s)
  | 0, s => by intro c hc; unfold chL chF at hc; cases hc
  | m + 1, s => by
    by_cases h : s = []
    · subst h; rw [chL_nil]; intro c hc; cases hc
    · rw [chL_cons m s h]
      intro c hc
      rcases List.mem_cons.1 hc with rfl | hc
      · have := rdP_ok s h
        split
        · omega
        · omega
      · exact chL_ok m _ c hc
theorem chP_ok (s : List UInt8) : okCh (chP s) := chL_ok _ s
theorem chP_len (s : List UInt8) : (chP s).length ≤ s.length := chL_len _ s
theorem flat_congr {α β : Type} {f g : α → List β} : ∀ (l : List α), (∀ a ∈ l, f a = g a) → l.flatMap f = l.flatMap g
  | [], _ => rfl
  | a :: l, h => by rw [List.flatMap_cons, List.flatMap_cons, h a (by simp), flat_congr l (fun b hb => h b (by simp [hb]))]
theorem repB_rp (s : List UInt8) : repB s = rpP s := by
  unfold repB rpP
  rw [repF_ch]
  refine flat_congr _ (fun c hc => ?_)
  have := chP_ok s c hc
  exact (encX_good (by omega) (by omega) (by omega)).1.symm
theorem rpP_len (s : List UInt8) : (rpP s).length ≤ 4 * s.length := by
  have := flat_len encX 4 encX_len (chP s)
  have := chP_len s
  unfold rpP
  omega
theorem rr_ok (s : List UInt8) (hs : s.length ≤ 1099511627776) : CallOK Tryd.prog 54 [.str s] [] (.ret (.str (rpP s)) []) := by
  have hd : ∀ l : List Int, decL (fun (r : List AVal) => intOf (r.getD 0 AVal.undef)) (AVal.list false l.length fun (i : Nat) => ichRow (l.getD i 0)) = l := fun l => decL_encL (fun a => rfl) l
  have hlen := chP_len s
  have key := fun k => rr_fun chP encX encXE rrR s k
  simp only [hd, dT hs, cond_true] at key
  replace key := fun k => (key k).trans ((congrArg (fun c => cond c _ none) (tst_true ⟨⟨rfl, by omega, chP_ok s⟩, .refl _, by trivial⟩)).trans (cond_true _ _))
  cases hb : chP s == [] with
  | true =>
    have h0 : chP s = [] := by simpa using hb
    refine layRr_ok.callF (G := []) rfl (fun k => (key k).trans ?_)
    rw [hb, cond_true]
    show _ = k (.ret (.str ((chP s).flatMap encX)) [])
    rw [h0]; rfl
  | false =>
    refine layRr_ok.callF (G := [.arr 1 ((rpP s).map byteRow) ((chP s).length - 1)]) rfl (fun k => (key k).trans ?_)
    rw [hb, cond_false]
    exact fin_bytes (rpP s) ((chP s).length - 1) _ k
theorem rrTold_ok : ∀ xs H k out, ursTold rpP xs H k = some out → ∃ o, CallOK Tryd.prog 54 xs H o ∧ k o = some out := mkFS_ok fun ys xs e h => by
  obtain ⟨s, rfl⟩ : ∃ s, xs = [.str s] := ⟨_, e⟩
  rw [decide_eq_true_eq] at h
  have h : s.length ≤ 1073741824 := h
  exact ⟨_, fun k => rfl, rr_ok s (by omega)⟩
/- Escape -/
def escC (c : UInt8) : List UInt8 := bif c == 38 then [38,97,109,112,59] else bif c == 60 then [38,108,116,59] else bif c == 62 then [38,103,116,59] else bif c == 34 then [38,35,51,52,59] else bif c == 39 then [38,35,51,57,59] else bif c == 43 then [38,35,52,51,59] else [c]
theorem escC_len (c : UInt8) : (escC c).length ≤ 5 := by
  unfold escC
  cases c == 38 <;> cases c == 60 <;> cases c == 62 <;> cases c == 34 <;> cases c == 39 <;> cases c == 43 <;> simp
def escT (t : List UInt8) : List UInt8 := t.flatMap escC
def escP (s : List UInt8) : List UInt8 := escT (rpP s)
end Go.Mu
set_option linter.unusedVariables false
set_option linter.unusedSimpArgs false
namespace Go.Mu
open Go Go.Proofs
def Bld.adds (x : Bld) (ls : List (List UInt8)) : Bld := ls.foldl (fun y l => y.add 0 2 l) x
theorem Bld.adds_can : ∀ (ls : List (List UInt8)) {x : Bld}, x.can 0 2 → (x.adds ls).can 0 2
  | [], x, h => h
  | l :: ls, x, h => Bld.adds_can ls (x := x.add 0 2 l) (Bld.add_can h l)
theorem Bld.adds_t : ∀ (ls : List (List UInt8)) (x : Bld), (x.adds ls).t = x.t ++ ls.flatten
  | [], x => by show x.t = _; simp
  | l :: ls, x => by
    show ((x.add 0 2 l).adds ls).t = _
    rw [Bld.adds_t ls, Bld.add_t, List.flatten_cons, List.append_assoc]
theorem Bld.adds_app (x : Bld) (a b : List (List UInt8)) : x.adds (a ++ b) = (x.adds a).adds b := by
  unfold Bld.adds
  rw [List.foldl_append]
theorem Bld.adds_snoc (x : Bld) (a : List (List UInt8)) (l : List UInt8) : x.adds (a ++ [l]) = (x.adds a).add 0 2 l := Bld.adds_app x a [l]
/- the same, wherever the builder lies -/
def Bld.addA (i j : Nat) (x : Bld) (ls : List (List UInt8)) : Bld := ls.foldl (fun y l => y.add i j l) x
theorem Bld.addA_can {i j : Nat} : ∀ (ls : List (List UInt8)) {x : Bld}, x.can i j → (x.addA i j ls).can i j
  | [], x, h => h
  | l :: ls, x, h => Bld.addA_can ls (x := x.add i j l) (Bld.add_can h l)
theorem Bld.addA_t {i j : Nat} : ∀ (ls : List (List UInt8)) (x : Bld), (x.addA i j ls).t = x.t ++ ls.flatten
  | [], x => by show x.t = _; simp
  | l :: ls, x => by
    show ((x.add i j l).addA i j ls).t = _
    rw [Bld.addA_t ls, Bld.add_t, List.flatten_cons, List.append_assoc]
theorem Bld.addA_app {i j : Nat} (x : Bld) (a b : List (List UInt8)) : x.addA i j (a ++ b) = (x.addA i j a).addA i j b := by
  unfold Bld.addA
  rw [List.foldl_append]
theorem map_flatten {α : Type} (f : α → List UInt8) (l : List α) : (l.map f).flatten = l.flatMap f := by rw [List.flatMap_def]
theorem flatMap_flatten {α : Type} (f : α → List (List UInt8)) : ∀ (l : List α), (l.flatMap f).flatten = l.flatMap (fun a => (f a).flatten)
  | [] => rfl
  | a :: l => by rw [List.flatMap_cons, List.flatten_append, flatMap_flatten f l, List.flatMap_cons]
end Go.Mu
set_option linter.unusedVariables false
set_option linter.unusedSimpArgs false
set_option maxRecDepth 100000
namespace Go.Mu
open Go Go.Proofs
theorem urpTold_ok : ∀ xs H k out, urpTold repB xs H k = some out → ∃ o, CallOK Tryd.prog 95 xs H o ∧ k o = some out := repTTold_ok
theorem layEs0_ok : (layEs0 repB).OK Tryd.prog := b0_ok (Lay.nil_ok.addF urpTold_ok)
def escE (x : Bld) (l : List UInt8) : Bld := x.adds (l.map escC)
noncomputable abbrev escTurn := lturn Tryd.prog (layEs0 repB) (escFH escE) 50 3 [3,8,9,10] [] [3] []
theorem esc_rd (f : Bool) (l : List UInt8) (y : Bld) (hy : y.can 0 2) (ht : y.t.length ≤ 1073741824) (hl : l.length ≤ 1073741824) (i : Nat) (hi : i < l.length) (D : List (FuncId × List AVal)) (k : Kont) :
    escTurn (stL 37 [3,8,9,10] [.ptr (.hp 0) 0, byL f l, .int .i64 l.length, .int .i64 (i : Nat)] [] [] (b0H.mk y).heap D) k = k .normal (stL 37 [3,8,9,10] [.ptr (.hp 0) 0, byL f l, .int .i64 l.length, .int .i64 ((i + 1 : Nat) : Int)] [] [] (b0H.mk (y.add 0 2 (escC (l.getD i 0)))).heap D) := by
  have key := esc_step repB escE y f l l.length i D k _ rfl y.t rfl _ rfl _ rfl _ rfl _ rfl _ rfl _ rfl _ rfl (l.getD i 0) (by simp) _ rfl _ rfl
  have e1 : IntKind.i64.wrap ((i : Int) + 1) = ((i + 1 : Nat) : Int) := wrap_add1 (by omega)
  have q38 : (((l.getD i 0).toNat : Int) == 38) = (l.getD i 0 == 38) := eqc (by decide)
  have q60 : (((l.getD i 0).toNat : Int) == 60) = (l.getD i 0 == 60) := eqc (by decide)
  have q62 : (((l.getD i 0).toNat : Int) == 62) = (l.getD i 0 == 62) := eqc (by decide)
  have q34 : (((l.getD i 0).toNat : Int) == 34) = (l.getD i 0 == 34) := eqc (by decide)
  have q39 : (((l.getD i 0).toNat : Int) == 39) = (l.getD i 0 == 39) := eqc (by decide)
  have q43 : (((l.getD i 0).toNat : Int) == 43) = (l.getD i 0 == 43) := eqc (by decide)
  refine key.trans ?_
  simp only [Int.toNat_natCast, e1, q38, q60, q62, q34, q39, q43, dT (show (i : Int) < l.length by omega), dT (show (0 : Int) ≤ (i : Int) by omega), Bool.and_self, cond_true]
  unfold escC
  cases l.getD i 0 == 38
  · cases l.getD i 0 == 60
    · cases l.getD i 0 == 62
      · cases l.getD i 0 == 34
        · cases l.getD i 0 == 39
          · cases l.getD i 0 == 43
            · exact (congrArg (fun c => cond c _ none) (tst_true ⟨⟨hy, ht⟩, .refl _, by trivial⟩)).trans rfl
            · exact (congrArg (fun c => cond c _ none) (tst_true ⟨⟨hy, by omega⟩, .refl _, by trivial⟩)).trans rfl
          · exact (congrArg (fun c => cond c _ none) (tst_true ⟨⟨hy, by omega⟩, .refl _, by trivial⟩)).trans rfl
        · exact (congrArg (fun c => cond c _ none) (tst_true ⟨⟨hy, by omega⟩, .refl _, by trivial⟩)).trans rfl
      · exact (congrArg (fun c => cond c _ none) (tst_true ⟨⟨hy, by omega⟩, .refl _, by trivial⟩)).trans rfl
    · exact (congrArg (fun c => cond c _ none) (tst_true ⟨⟨hy, by omega⟩, .refl _, by trivial⟩)).trans rfl
  · exact (congrArg (fun c => cond c _ none) (tst_true ⟨⟨hy, by omega⟩, .refl _, by trivial⟩)).trans rfl
theorem escSp_ok : SpOK escTurn 37 [3,8,9,10] [] [3] [] (escSp escE) := mkL_ok fun a h => by
  obtain ⟨x, l, i, f⟩ := a
  obtain ⟨h1, h2, h3, h4⟩ := h
  simp only at h1 h2 h3 h4
  subst h3
  refine ⟨_, _, _, _, fun k => rfl, ?_⟩
  have hc := fun i => Bld.adds_can ((l.take i).map escC) h1
  have ht : ∀ i, i < l.length → (x.adds ((l.take i).map escC)).t.length ≤ 1073741824 := fun i hi => by
    have := flat_len_take escC 5 escC_len l i
    rw [Bld.adds_t, map_flatten, List.length_append, h2]
    omega
  have key := seq_runs (turn := escTurn) (n := 37) (l := [3,8,9,10]) (m := []) (lx := [3]) (mx := []) (fun i => [.ptr (.hp 0) 0, byL f l, .int .i64 l.length, .int .i64 (i : Nat)]) (fun _ => []) (fun i => (b0H.mk (x.adds ((l.take i).map escC))).heap) l.length (e := .exit 0) (by simp)
    (fun i hi D k => by
      refine (esc_rd f l _ (hc i) (ht i hi) (by omega) i hi D k).trans ?_
      rw [take_map l 0 escC i hi, Bld.adds_snoc])
    (fun D k => by
      refine (esc_step repB escE _ f l l.length l.length D k _ rfl _ rfl _ rfl _ rfl _ rfl _ rfl _ rfl _ rfl _ rfl _ rfl _ rfl _ rfl).trans ?_
      rw [dF (show ¬ (l.length : Int) < l.length by omega), cond_false])
  rw [List.take_of_length_le (Nat.le_refl _)] at key
  exact key
theorem layEs_ok : (layEs repB escE).OK Tryd.prog := layEs0_ok.loop1 (id := 3) (by kernel_rfl) (by kernel_rfl) (by kernel_rfl) escSp_ok
theorem byt_decL (f : Bool) (l : List UInt8) : decL (fun (r : List AVal) => byteOf r) (AVal.list f l.length fun (i : Nat) => [AVal.int IntKind.u8 (↑(l.getD i 0).toNat : Int)]) = l := decL_encL decB_enc l
def pescTold (R : List UInt8 → List UInt8) : FSp := mkFS [.s] (fun xs => decide ((aS xs 0).length ≤ 26843545)) (fun xs k => k (.ret (.str (R (aS xs 0))) []))
end Go.Mu
set_option linter.unusedVariables false
set_option linter.unusedSimpArgs false
set_option maxRecDepth 100000
namespace Go.Mu
open Go Go.Proofs
/- Hex -/
def hxC (m : Int) : UInt8 := byteOf [AVal.int IntKind.u8 (↑(([48, 49, 50, 51, 52, 53, 54, 55, 56, 57, 97, 98, 99, 100, 101, 102] : List UInt8).getD m.toNat 0).toNat : Int)]
def hxN (n : Int) (d : Int) : Int := IntKind.u64.wrap (↑(BitVec.ofInt 64 ((IntKind.u64.wrap n).fdiv d) &&& BitVec.ofInt 64 15).toNat : Int)
theorem hxN_lt (n d : Int) : hxN n d < 16 := by
  unfold hxN
  have h : (BitVec.ofInt 64 ((IntKind.u64.wrap n).fdiv d) &&& BitVec.ofInt 64 15).toNat ≤ 15 := by
    rw [BitVec.toNat_and]
    exact Nat.and_le_right
  have e : ∀ x : Int, IntKind.u64.wrap x = x % 18446744073709551616 := fun x => by simp [IntKind.wrap, IntKind.signed, IntKind.bits]
  rw [e]
  omega
def hexX (n size : Int) : List UInt8 := bif size == 2 then [hxC (hxN n 16), hxC (hxN n 1)] else [hxC (hxN n 4096), hxC (hxN n 256), hxC (hxN n 16), hxC (hxN n 1)]
theorem hexX_len (n size : Int) : (hexX n size).length ≤ 4 := by
  unfold hexX
  cases size == 2 <;> simp
def hxR (m : Int) : List AVal := [AVal.int IntKind.u8 (↑(([48, 49, 50, 51, 52, 53, 54, 55, 56, 57, 97, 98, 99, 100, 101, 102] : List UInt8).getD m.toNat 0).toNat : Int)]
theorem hexX_len2 (n : Int) : (hexX n 2).length = 2 := rfl
theorem hexTold_ok : ∀ xs H k out, hexTold hexX xs H k = some out → ∃ o, CallOK Tryd.prog 204 xs H o ∧ k o = some out := mkFS_ok fun ys xs e h => by
  obtain ⟨n, z, rfl⟩ : ∃ n z, xs = [.int .i64 n, .int .i64 z] := ⟨_, _, e⟩
  have h2 : 0 ≤ n ∧ (z = 2 ∧ n ≤ 255 ∨ z = 4 ∧ n ≤ 65535) := of_decide_eq_true h
  rcases h2.2 with ⟨rfl, _⟩ | ⟨rfl, _⟩
  · refine ⟨_, fun k => rfl, Lay.nil_ok.callN (G := [.arr 1 [hxR (hxN n 16), hxR (hxN n 1)] 0]) 9 rfl (fun k => (hex2_fun n k).trans ?_)⟩
    exact ((congrArg (fun c => cond c _ none) (dT (hxN_lt n 1))).trans ((cond_true _ _).trans ((congrArg (fun c => cond c _ none) (dT (hxN_lt n 16))).trans (cond_true _ _))))
  · refine ⟨_, fun k => rfl, Lay.nil_ok.callN (G := [.arr 1 [hxR (hxN n 4096), hxR (hxN n 256), hxR (hxN n 16), hxR (hxN n 1)] 0]) 9 rfl (fun k => (hex4_fun n k).trans ?_)⟩
    exact ((congrArg (fun c => cond c _ none) (dT (hxN_lt n 1))).trans ((cond_true _ _).trans ((congrArg (fun c => cond c _ none) (dT (hxN_lt n 16))).trans ((cond_true _ _).trans ((congrArg (fun c => cond c _ none) (dT (hxN_lt n 256))).trans ((cond_true _ _).trans ((congrArg (fun c => cond c _ none) (dT (hxN_lt n 4096))).trans (cond_true _ _))))))))
/- which may stand -/
def unrI (n2 : Int) : Bool := bif bif bif decide (IntKind.u8.wrap (↑(BitVec.ofInt 8 n2 ||| BitVec.ofInt 8 32).toNat : Int) ≥ 97) then decide (IntKind.u8.wrap (↑(BitVec.ofInt 8 n2 ||| BitVec.ofInt 8 32).toNat : Int) ≤ 122) else false then true else bif decide (n2 ≥ 48) then decide (n2 ≤ 57) else false then true else decide (ibM [45, 46, 95, 126] n2 ≥ 0)
def mayNM (s : List UInt8) (i : Int) : Bool :=
  let n2 : Int := (↑(s.getD i.toNat 0).toNat : Int)
  let c5 : Bool := bif unrI n2 then true else decide (ibM [33, 35, 36, 38, 42, 43, 44, 47, 58, 59, 61, 63, 64, 91, 93] n2 ≥ 0)
  bif bif n2 != 37 then true else decide (IntKind.i64.wrap ((↑s.length : Int) - i) < 3) then (bif c5 then true else false) else (bif c5 then true else (unhexM (List.drop (IntKind.i64.wrap (i + 1)).toNat (List.take (IntKind.i64.wrap (i + 3)).toNat s))).snd == 0)
def mayEM (s : List UInt8) (i : Int) : Bool := unrI (↑(s.getD i.toNat 0).toNat : Int)
theorem layPm_ok : layPm.OK Tryd.prog := (Lay.nil_ok.addF ibTold_ok).addF unhexTold_ok
theorem mayNTold_ok : ∀ xs H k out, mayTold mayNM xs H k = some out → ∃ o, CallOK Tryd.prog 157 xs H o ∧ k o = some out := mkFS_ok fun ys xs e h => by
  obtain ⟨s, i, rfl⟩ : ∃ s i, xs = [.str s, .int .i64 i] := ⟨_, _, e⟩
  have h2 : 0 ≤ i ∧ i < s.length ∧ s.length ≤ 1099511627776 := of_decide_eq_true h
  refine ⟨_, fun k => rfl, layPm_ok.callF (G := []) rfl (fun k => (mayN_fun s i k).trans ?_)⟩
  have w1 : IntKind.i64.wrap (i + 1) = i + 1 := wrap_of (by omega) (by omega)
  have w3 : IntKind.i64.wrap (i + 3) = i + 3 := wrap_of (by omega) (by omega)
  have wd : IntKind.i64.wrap ((s.length : Int) - i) = s.length - i := wrap_of (by omega) (by omega)
  show _ = k (.ret (.bool (mayNM s i)) [])
  have ht : (decide (0 ≤ i) && decide (i < (s.length : Int))) = true := by rw [dT h2.1, dT h2.2.1]; rfl
  simp only [ht, cond_true, Bool.true_or]
  unfold mayNM unrI
  by_cases hb : (bif ((↑(s.getD i.toNat 0).toNat : Int)) != 37 then true else decide (IntKind.i64.wrap ((↑s.length : Int) - i) < 3)) = true
  · simp only [hb, cond_true]
  · have hb2 : (bif ((↑(s.getD i.toNat 0).toNat : Int)) != 37 then true else decide (IntKind.i64.wrap ((↑s.length : Int) - i) < 3)) = false := by simpa using hb
    simp only [hb2, cond_false]
    have h3 : 3 ≤ (s.length : Int) - i := by
      cases hq : ((↑(s.getD i.toNat 0).toNat : Int)) != 37 with
      | true => rw [hq] at hb2; cases hb2
      | false =>
        rw [hq, cond_false, wd] at hb2
        have := of_decide_eq_false hb2
        omega
    have hc : (decide (0 ≤ IntKind.i64.wrap (i + 1)) && decide (IntKind.i64.wrap (i + 1) ≤ IntKind.i64.wrap (i + 3)) && decide (IntKind.i64.wrap (i + 3) ≤ (s.length : Int))) = true := by
      rw [w1, w3, dT (by omega), dT (by omega), dT (by omega)]; rfl
    simp only [hc, cond_true]
theorem mayETold_ok : ∀ xs H k out, mayTold mayEM xs H k = some out → ∃ o, CallOK Tryd.prog 161 xs H o ∧ k o = some out := mkFS_ok fun ys xs e h => by
  obtain ⟨s, i, rfl⟩ : ∃ s i, xs = [.str s, .int .i64 i] := ⟨_, _, e⟩
  have h2 : 0 ≤ i ∧ i < s.length ∧ s.length ≤ 1099511627776 := of_decide_eq_true h
  refine ⟨_, fun k => rfl, layPm_ok.callF (G := []) rfl (fun k => (mayE_fun s i k).trans ?_)⟩
  have ht : (decide (0 ≤ i) && decide (i < (s.length : Int))) = true := by rw [dT h2.1, dT h2.2.1]; rfl
  exact (congrArg (fun c => cond c _ none) ht).trans (cond_true _ _)
/- written -/
def wrG (M : List UInt8 → Int → Bool) (s : List UInt8) (i : Nat) : List (List UInt8) := bif M s i then [[s.getD i 0]] else [[37], hexX (s.getD i 0).toNat 2]
theorem wrG_len (M : List UInt8 → Int → Bool) (s : List UInt8) (i : Nat) : (wrG M s i).flatten.length ≤ 3 := by
  unfold wrG
  have h := hexX_len2 ((s.getD i 0).toNat : Int)
  cases M s i <;> simp only [cond_true, cond_false, List.flatten_cons, List.flatten_nil, List.length_append, List.length_cons, List.length_nil, h] <;> omega
def wrE (M : List UInt8 → Int → Bool) (x : Bld) (s : List UInt8) : Bld := x.adds ((List.range s.length).flatMap (wrG M s))
def wrT (M : List UInt8 → Int → Bool) (s : List UInt8) : List UInt8 := (List.range s.length).flatMap (fun i => (wrG M s i).flatten)
theorem range_flat {β : Type} (f : Nat → List β) (i : Nat) : (List.range (i + 1)).flatMap f = (List.range i).flatMap f ++ f i := by
  rw [List.range_succ, List.flatMap_append]
  simp
theorem layWn0_ok : (layWn0 hexX mayNM repB).OK Tryd.prog := b0_ok (((Lay.nil_ok.addF hexTold_ok).addF mayNTold_ok).addF urpTold_ok)
noncomputable abbrev wnTurn := lturn Tryd.prog (layWn0 hexX mayNM repB) (wrFH 157 (wrE mayNM)) 156 3 [0,1,5,8,9] [] [5] []
theorem wn_rd (s : List UInt8) (y : Bld) (hy : y.can 0 2) (ht : y.t.length ≤ 1073741000) (hl : s.length ≤ 1073741824) (i : Nat) (hi : i < s.length) (D : List (FuncId × List AVal)) (k : Kont) :
    wnTurn (stL 29 [0,1,5,8,9] [.str s, .func 157 [], .ptr (.hp 0) 0, .int .i64 s.length, .int .i64 (i : Nat)] [] [] (b0H.mk y).heap D) k = k .normal (stL 29 [0,1,5,8,9] [.str s, .func 157 [], .ptr (.hp 0) 0, .int .i64 s.length, .int .i64 ((i + 1 : Nat) : Int)] [] [] (b0H.mk (y.adds (wrG mayNM s i))).heap D) := by
  have hb := (s.getD i 0).toNat_lt
  have wn : IntKind.i64.wrap ((s.getD i 0).toNat : Int) = ((s.getD i 0).toNat : Int) := wrap_of (by omega) (by omega)
  have hx := hexX_len ((s.getD i 0).toNat : Int) 2
  have key := wn_step hexX mayNM repB (wrE mayNM) y s s.length i D k _ rfl y.t rfl _ rfl (s.getD i 0) (by simp) _ rfl _ rfl ((s.getD i 0).toNat : Int) (by rw [Int.toNat_natCast]; exact wn.symm) _ rfl (y.add 0 2 [37]).t rfl (hexX (s.getD i 0).toNat 2) rfl _ rfl
  have e1 : IntKind.i64.wrap ((i : Int) + 1) = ((i + 1 : Nat) : Int) := wrap_add1 (by omega)
  refine key.trans ?_
  simp only [e1, dT (show (i : Int) < s.length by omega), dT (show (0 : Int) ≤ (i : Int) by omega), dT (show (0 : Int) ≤ (i : Int) ∧ (i : Int) < s.length ∧ s.length ≤ 1099511627776 by omega), Bool.and_self, cond_true]
  unfold wrG
  cases mayNM s i with
  | true => exact (congrArg (fun c => cond c _ none) (tst_true ⟨⟨hy, by omega⟩, .refl _, by trivial⟩)).trans rfl
  | false =>
    have ht2 : (y.add 0 2 [37]).t.length = y.t.length + 1 := by rw [Bld.add_t, List.length_append]; rfl
    refine (congrArg (fun c => cond c _ none) (tst_true ⟨⟨hy, by omega⟩, .refl _, by trivial⟩)).trans ((cond_true _ _).trans ?_)
    refine (congrArg (fun c => cond c _ none) (dT ⟨by omega, .inl ⟨by trivial, by omega⟩⟩)).trans ((cond_true _ _).trans ?_)
    exact (congrArg (fun c => cond c _ none) (tst_true ⟨⟨Bld.add_can hy [37], by rw [ht2]; omega⟩, .refl _, by trivial⟩)).trans rfl
theorem wnSp_ok : SpOK wnTurn 29 [0,1,5,8,9] [] [5] [] (wrSp 157 (wrE mayNM)) := mkL_ok fun a h => by
  obtain ⟨x, s, i⟩ := a
  obtain ⟨h1, h2, h3, h4⟩ := h
  simp only at h1 h2 h3 h4
  subst h3
  refine ⟨_, _, _, _, fun k => rfl, ?_⟩
  have hc := fun i => Bld.adds_can ((List.range i).flatMap (wrG mayNM s)) h1
  have ht : ∀ i, i < s.length → (x.adds ((List.range i).flatMap (wrG mayNM s))).t.length ≤ 1073741000 := fun i hi => by
    have := flat_len (fun i => (wrG mayNM s i).flatten) 3 (wrG_len mayNM s) (List.range i)
    rw [List.length_range] at this
    rw [Bld.adds_t, flatMap_flatten, List.length_append, h2]
    omega
  exact seq_runs (turn := wnTurn) (n := 29) (l := [0,1,5,8,9]) (m := []) (lx := [5]) (mx := []) (fun i => [.str s, .func 157 [], .ptr (.hp 0) 0, .int .i64 s.length, .int .i64 (i : Nat)]) (fun _ => []) (fun i => (b0H.mk (x.adds ((List.range i).flatMap (wrG mayNM s)))).heap) s.length (e := .exit 0) (by simp)
    (fun i hi D k => by
      refine (wn_rd s _ (hc i) (ht i hi) (by omega) i hi D k).trans ?_
      rw [range_flat, Bld.adds_app])
    (fun D k => by
      refine (wn_step hexX mayNM repB (wrE mayNM) _ s s.length s.length D k _ rfl _ rfl _ rfl _ rfl _ rfl _ rfl _ rfl _ rfl _ rfl _ rfl _ rfl).trans ?_
      rw [dF (show ¬ (s.length : Int) < s.length by omega), cond_false]
      rfl)
theorem layWn_ok : (layWn hexX mayNM repB (wrE mayNM)).OK Tryd.prog := layWn0_ok.loop1 (id := 3) (by kernel_rfl) (by kernel_rfl) (by kernel_rfl) wnSp_ok
def normP (s : List UInt8) : List UInt8 := wrT mayNM (rpP s)
theorem normP_len (s : List UInt8) : (normP s).length ≤ 12 * s.length := by
  have := flat_len (fun i => (wrG mayNM (rpP s) i).flatten) 3 (wrG_len mayNM (rpP s)) (List.range (rpP s).length)
  rw [List.length_range] at this
  have := rpP_len s
  unfold normP wrT
  omega
theorem normP_ok (s : List UInt8) (hs : s.length ≤ 26843545) : CallOK Tryd.prog 99 [.str s] [] (.ret (.str (normP s)) []) := by
  have hr := repB_rp s
  have hl := rpP_len s
  have c1 := Bld.adds_can ((List.range (repB s).length).flatMap (wrG mayNM (repB s))) (Bld.new_can 0 2)
  have t1 : (wrE mayNM Bld.new (repB s)).t = normP s := by
    unfold wrE
    rw [Bld.adds_t, flatMap_flatten, hr]; rfl
  have hl2 := normP_len s
  have key := fun k => (norm_fun hexX mayNM repB (wrE mayNM) s k (wrE mayNM Bld.new (repB s)).t rfl).trans
    ((congrArg (fun c => cond c _ none) (dT (by omega))).trans ((cond_true _ _).trans
    ((congrArg (fun c => cond c _ none) (tst_true ⟨⟨Bld.new_can 0 2, rfl, rfl, by rw [hr]; omega⟩, .refl _, by trivial⟩)).trans ((cond_true _ _).trans
    ((congrArg (fun c => cond c _ none) (tst_true ⟨⟨c1, by rw [t1]; omega⟩, .refl _, by trivial⟩)).trans (cond_true _ _))))))
  rw [← t1]
  exact layWn_ok.callF rfl key
theorem layWe0_ok : (layWe0 hexX mayEM repB).OK Tryd.prog := b0_ok (((Lay.nil_ok.addF hexTold_ok).addF mayETold_ok).addF urpTold_ok)
noncomputable abbrev weTurn := lturn Tryd.prog (layWe0 hexX mayEM repB) (wrFH 161 (wrE mayEM)) 156 3 [0,1,5,8,9] [] [5] []
theorem we_rd (s : List UInt8) (y : Bld) (hy : y.can 0 2) (ht : y.t.length ≤ 1073741000) (hl : s.length ≤ 1073741824) (i : Nat) (hi : i < s.length) (D : List (FuncId × List AVal)) (k : Kont) :
    weTurn (stL 29 [0,1,5,8,9] [.str s, .func 161 [], .ptr (.hp 0) 0, .int .i64 s.length, .int .i64 (i : Nat)] [] [] (b0H.mk y).heap D) k = k .normal (stL 29 [0,1,5,8,9] [.str s, .func 161 [], .ptr (.hp 0) 0, .int .i64 s.length, .int .i64 ((i + 1 : Nat) : Int)] [] [] (b0H.mk (y.adds (wrG mayEM s i))).heap D) := by
  have hb := (s.getD i 0).toNat_lt
  have wn : IntKind.i64.wrap ((s.getD i 0).toNat : Int) = ((s.getD i 0).toNat : Int) := wrap_of (by omega) (by omega)
  have hx := hexX_len ((s.getD i 0).toNat : Int) 2
  have key := we_step hexX mayEM repB (wrE mayEM) y s s.length i D k _ rfl y.t rfl _ rfl (s.getD i 0) (by simp) _ rfl _ rfl ((s.getD i 0).toNat : Int) (by rw [Int.toNat_natCast]; exact wn.symm) _ rfl (y.add 0 2 [37]).t rfl (hexX (s.getD i 0).toNat 2) rfl _ rfl
  have e1 : IntKind.i64.wrap ((i : Int) + 1) = ((i + 1 : Nat) : Int) := wrap_add1 (by omega)
  refine key.trans ?_
  simp only [e1, dT (show (i : Int) < s.length by omega), dT (show (0 : Int) ≤ (i : Int) by omega), dT (show (0 : Int) ≤ (i : Int) ∧ (i : Int) < s.length ∧ s.length ≤ 1099511627776 by omega), Bool.and_self, cond_true]
  unfold wrG
  cases mayEM s i with
  | true => exact (congrArg (fun c => cond c _ none) (tst_true ⟨⟨hy, by omega⟩, .refl _, by trivial⟩)).trans rfl
  | false =>
    have ht2 : (y.add 0 2 [37]).t.length = y.t.length + 1 := by rw [Bld.add_t, List.length_append]; rfl
    refine (congrArg (fun c => cond c _ none) (tst_true ⟨⟨hy, by omega⟩, .refl _, by trivial⟩)).trans ((cond_true _ _).trans ?_)
    refine (congrArg (fun c => cond c _ none) (dT ⟨by omega, .inl ⟨by trivial, by omega⟩⟩)).trans ((cond_true _ _).trans ?_)
    exact (congrArg (fun c => cond c _ none) (tst_true ⟨⟨Bld.add_can hy [37], by rw [ht2]; omega⟩, .refl _, by trivial⟩)).trans rfl
theorem weSp_ok : SpOK weTurn 29 [0,1,5,8,9] [] [5] [] (wrSp 161 (wrE mayEM)) := mkL_ok fun a h => by
  obtain ⟨x, s, i⟩ := a
  obtain ⟨h1, h2, h3, h4⟩ := h
  simp only at h1 h2 h3 h4
  subst h3
  refine ⟨_, _, _, _, fun k => rfl, ?_⟩
  have hc := fun i => Bld.adds_can ((List.range i).flatMap (wrG mayEM s)) h1
  have ht : ∀ i, i < s.length → (x.adds ((List.range i).flatMap (wrG mayEM s))).t.length ≤ 1073741000 := fun i hi => by
    have := flat_len (fun i => (wrG mayEM s i).flatten) 3 (wrG_len mayEM s) (List.range i)
    rw [List.length_range] at this
    rw [Bld.adds_t, flatMap_flatten, List.length_append, h2]
    omega
  exact seq_runs (turn := weTurn) (n := 29) (l := [0,1,5,8,9]) (m := []) (lx := [5]) (mx := []) (fun i => [.str s, .func 161 [], .ptr (.hp 0) 0, .int .i64 s.length, .int .i64 (i : Nat)]) (fun _ => []) (fun i => (b0H.mk (x.adds ((List.range i).flatMap (wrG mayEM s)))).heap) s.length (e := .exit 0) (by simp)
    (fun i hi D k => by
      refine (we_rd s _ (hc i) (ht i hi) (by omega) i hi D k).trans ?_
      rw [range_flat, Bld.adds_app])
    (fun D k => by
      refine (we_step hexX mayEM repB (wrE mayEM) _ s s.length s.length D k _ rfl _ rfl _ rfl _ rfl _ rfl _ rfl _ rfl _ rfl _ rfl _ rfl _ rfl).trans ?_
      rw [dF (show ¬ (s.length : Int) < s.length by omega), cond_false]
      rfl)
theorem layWe_ok : (layWe hexX mayEM repB (wrE mayEM)).OK Tryd.prog := layWe0_ok.loop1 (id := 3) (by kernel_rfl) (by kernel_rfl) (by kernel_rfl) weSp_ok
def pencP (s : List UInt8) : List UInt8 := wrT mayEM (rpP s)
theorem pencP_len (s : List UInt8) : (pencP s).length ≤ 12 * s.length := by
  have := flat_len (fun i => (wrG mayEM (rpP s) i).flatten) 3 (wrG_len mayEM (rpP s)) (List.range (rpP s).length)
  rw [List.length_range] at this
  have := rpP_len s
  unfold pencP wrT
  omega
theorem pencP_ok (s : List UInt8) (hs : s.length ≤ 26843545) : CallOK Tryd.prog 100 [.str s] [] (.ret (.str (pencP s)) []) := by
  have hr := repB_rp s
  have hl := rpP_len s
  have c1 := Bld.adds_can ((List.range (repB s).length).flatMap (wrG mayEM (repB s))) (Bld.new_can 0 2)
  have t1 : (wrE mayEM Bld.new (repB s)).t = pencP s := by
    unfold wrE
    rw [Bld.adds_t, flatMap_flatten, hr]; rfl
  have hl2 := pencP_len s
  have key := fun k => (penc_fun hexX mayEM repB (wrE mayEM) s k (wrE mayEM Bld.new (repB s)).t rfl).trans
    ((congrArg (fun c => cond c _ none) (dT (by omega))).trans ((cond_true _ _).trans
    ((congrArg (fun c => cond c _ none) (tst_true ⟨⟨Bld.new_can 0 2, rfl, rfl, by rw [hr]; omega⟩, .refl _, by trivial⟩)).trans ((cond_true _ _).trans
    ((congrArg (fun c => cond c _ none) (tst_true ⟨⟨c1, by rw [t1]; omega⟩, .refl _, by trivial⟩)).trans (cond_true _ _))))))
  rw [← t1]
  exact layWe_ok.callF rfl key
end Go.Mu
set_option linter.unusedVariables false
set_option linter.unusedSimpArgs false
set_option maxRecDepth 100000
namespace Go.Mu
open Go Go.Proofs Go.RowKit Go.Shelf
theorem CallOK.freshW {P : Program} {f : FuncId} {xs : List AVal} {H : Heap} {v : AVal} (h : ∀ w E (cs : List Value), Sim w E H → cs.length = xs.length → (∀ j, j < xs.length → Rep w E H (xs.getD j .undef) (cs.getD j undef)) →
    Calls P f cs.toArray w (fun e w' => ∃ (Q : Nat → Prop) (c : Value), e = .returned c ∧ Below w.heap.size w w' ∧ (∀ b, Q b → w.heap.size ≤ b ∧ b < w'.heap.size) ∧ RepP w' (fun x => E.imm x ∨ Q x) v c)) : CallOK P f xs H (.ret v H) := by
  intro w E cs sim hl hr
  refine Calls.mono (h w E cs sim hl hr) (fun e w' hp => ?_)
  obtain ⟨Q, c, rfl, hb, hq, h2⟩ := hp
  obtain ⟨ev, sim'⟩ := sim.freshV hb hq
  exact ⟨_, ev, sim', .pure _ _ h2⟩
theorem uch_ok (s : List UInt8) (hs : s.length ≤ 1099511627776) : CallOK Tryd.prog 153 [.str s] [] (.ret (encL false ucRow 0 (chP s)) []) := by
  refine CallOK.freshW (fun w E cs sim hl hr => ?_)
  obtain ⟨x, rfl⟩ : ∃ x, cs = [x] := by
    match cs, hl with
    | [x], _ => exact ⟨x, rfl⟩
  obtain ⟨b, e1, e2⟩ := rep_str (hr 0 (by simp))
  replace e1 : x = .string b := e1
  subst e1
  rw [ba_eq e2]
  have hsz : (ba s).size = s.length := ba_size s
  refine (uChars (ba s) w (by omega) (fun t W _ hb => uDec t w W sim.glob sim.immLt hb)).mono fun e w' ⟨v, he, ho, hb⟩ => ?_
  rw [hsz] at ho
  have hch : chF s.length (ba s) = chP s := rfl
  rw [hch] at ho
  obtain ⟨h0, h1⟩ := ho
  rcases h1 with ⟨rfl, hn⟩ | ⟨g, cap, cur, rfl, hg, hblk, hcap, _, hcs, htk⟩
  · refine ⟨fun _ => False, _, he, hb, fun b hb => hb.elim, ?_⟩
    have : chP s = [] := List.eq_nil_of_length_eq_zero hn
    rw [this]
    exact .list0 _ _ _ _ (fun h => by cases h)
  · refine ⟨fun b => b = g, _, he, hb, fun b e => ?_, ?_⟩
    · subst e; exact ⟨hg, (Array.getElem?_eq_some_iff.1 hblk).1⟩
    · unfold encL
      refine .list false _ _ g 0 cap 1 (fun i j => .int .i64 ((chP s).getD i 0)) hcap (fun h => by cases h) (.inr rfl) (fun i hi => rfl) (fun i j hi hj => ?_) (fun i j hi hj => ?_)
      · have hj0 : j = 0 := by omega
        subst hj0
        refine ⟨?_, rfl⟩
        have e6 : 0 + i * 1 + 0 = i := by omega
        have hc2 : cur.toList[i]? = some (.int .i64 ((chP s).getD i 0)) := by
          have := congrArg (fun l => l[i]?) htk
          simp only [List.getElem?_take, List.getElem?_map] at this
          rw [if_pos (by omega), List.getElem?_eq_getElem hi] at this
          rw [this, List.getD_eq_getElem?_getD, List.getElem?_eq_getElem hi]
          rfl
        rw [e6]
        unfold World.cell?
        rw [hblk]
        simpa using hc2
      · have hj0 : j = 0 := by omega
        subst hj0
        exact .int .i64 _
theorem uchTold_ok : ∀ xs H k out, uchTold chP xs H k = some out → ∃ o, CallOK Tryd.prog 153 xs H o ∧ k o = some out := mkFS_ok fun ys xs e h => by
  obtain ⟨s, rfl⟩ : ∃ s, xs = [.str s] := ⟨_, e⟩
  exact ⟨_, fun k => rfl, uch_ok s (of_decide_eq_true h)⟩
end Go.Mu
set_option linter.unusedVariables false
set_option linter.unusedSimpArgs false
set_option maxRecDepth 100000
namespace Go.Mu
open Go Go.Proofs
def plnM (n : Int) : Bool := bif decide (n < 128) then
          bif
              bif bif decide (IntKind.u8.wrap (↑(BitVec.ofInt 8 (IntKind.u8.wrap n) ||| BitVec.ofInt 8 32).toNat : Int) ≥ 97) then decide (IntKind.u8.wrap (↑(BitVec.ofInt 8 (IntKind.u8.wrap n) ||| BitVec.ofInt 8 32).toNat : Int) ≤ 122) else false then true
              else bif decide (n ≥ 48) then decide (n ≤ 57) else false then
            true
          else decide (ibM [32, 95, 46, 44] (IntKind.u8.wrap n) ≥ 0)
        else false
theorem layPl_ok : layPl.OK Tryd.prog := Lay.nil_ok.addF ibTold_ok
theorem plnTold_ok : ∀ xs H k out, plnTold plnM xs H k = some out → ∃ o, CallOK Tryd.prog 154 xs H o ∧ k o = some out := mkFS_ok fun ys xs e h => by
  obtain ⟨n, rfl⟩ : ∃ n, xs = [.int .i64 n] := ⟨_, e⟩
  exact ⟨_, fun k => rfl, layPl_ok.callF (G := []) rfl (fun k => pln_fun n k)⟩
theorem layLq0_ok : (layLq0 hexX plnM chP).OK Tryd.prog := b0_ok (((Lay.nil_ok.addF hexTold_ok).addF plnTold_ok).addF uchTold_ok)
def qHi (c : Int) : Int := IntKind.i64.wrap (55296 + (IntKind.i64.wrap (c - 65536)).fdiv 1024)
def qLo (c : Int) : Int := IntKind.i64.wrap (56320 + IntKind.i64.wrap (↑(BitVec.ofInt 64 (IntKind.i64.wrap (c - 65536)) &&& BitVec.ofInt 64 1023).toNat : Int))
theorem qHi_is (c : Int) (h1 : 65535 < c) (h2 : c ≤ 1114111) : qHi c = 55296 + (c - 65536) / 1024 := by
  unfold qHi
  rw [wrap_of (n := c - 65536) (by omega) (by omega), Int.fdiv_eq_ediv_of_nonneg _ (by decide), wrap_of (by omega) (by omega)]
theorem qLo_is (c : Int) (h1 : 65535 < c) (h2 : c ≤ 1114111) : qLo c = 56320 + (c - 65536) % 1024 := by
  unfold qLo
  rw [wrap_of (n := c - 65536) (by omega) (by omega)]
  obtain ⟨m, hm⟩ : ∃ m : Nat, c - 65536 = m := ⟨(c - 65536).toNat, by omega⟩
  rw [hm]
  have e : (BitVec.ofInt 64 (m : Int) &&& BitVec.ofInt 64 1023).toNat = m % 1024 := by
    rw [BitVec.toNat_and, BitVec.toNat_ofInt, BitVec.toNat_ofInt]
    have h3 : ((m : Int) % ((2 ^ 64 : Nat) : Int)).toNat = m := by omega
    have h4 : ((1023 : Int) % ((2 ^ 64 : Nat) : Int)).toNat = 2 ^ 10 - 1 := by decide
    rw [h3, h4, Nat.and_two_pow_sub_one_eq_mod]
  rw [e]
  rw [wrap_of (n := ((m % 1024 : Nat) : Int)) (by omega) (by omega), wrap_of (by omega) (by omega)]
  omega
def qB (c : Int) : List (List UInt8) := bif plnM c then [[UInt8.ofNat (IntKind.u8.wrap c).toNat]] else bif decide (c > 65535) then [[92, 117], hexX (qHi c) 4, [92, 117], hexX (qLo c) 4] else [[92, 117], hexX c 4]
theorem qB_len (c : Int) : (qB c).flatten.length ≤ 12 := by
  unfold qB
  have h1 := hexX_len (qHi c) 4
  have h2 := hexX_len (qLo c) 4
  have h3 := hexX_len c 4
  cases plnM c
  · cases decide (c > 65535) <;> simp <;> omega
  · simp
def lqE (x : Bld) (l : List Int) : Bld := x.adds (l.flatMap qB)
noncomputable abbrev lqTurn := lturn Tryd.prog (layLq0 hexX plnM chP) (lqFH lqE) 96 4 [3,8,9,10] [] [3] []
theorem lq_rd (f : Bool) (l : List Int) (y : Bld) (hy : y.can 0 2) (ht : y.t.length ≤ 1073741000) (hl : l.length ≤ 1073741824) (i : Nat) (hi : i < l.length) (hc : 0 ≤ l.getD i 0 ∧ l.getD i 0 ≤ 1114111) (D : List (FuncId × List AVal)) (k : Kont) :
    lqTurn (stL 38 [3,8,9,10] [.ptr (.hp 0) 0, encL f ucRow 0 l, .int .i64 l.length, .int .i64 (i : Nat)] [] [] (b0H.mk y).heap D) k = k .normal (stL 38 [3,8,9,10] [.ptr (.hp 0) 0, encL f ucRow 0 l, .int .i64 l.length, .int .i64 ((i + 1 : Nat) : Int)] [] [] (b0H.mk (y.adds (qB (l.getD i 0)))).heap D) := by
  have key := lq_step hexX plnM chP lqE y f l l.length i D k (l.getD i 0) (by rw [Int.toNat_natCast]) y.t rfl _ rfl _ rfl _ rfl _ rfl _ rfl _ rfl _ rfl _ rfl _ rfl (y.add 0 2 [92, 117]).t rfl _ rfl (hexX (qHi (l.getD i 0)) 4) rfl _ rfl ((y.add 0 2 [92, 117]).add 0 2 (hexX (qHi (l.getD i 0)) 4)).t rfl (qLo (l.getD i 0)) rfl _ rfl (((y.add 0 2 [92, 117]).add 0 2 (hexX (qHi (l.getD i 0)) 4)).add 0 2 [92, 117]).t rfl (hexX (qLo (l.getD i 0)) 4) rfl _ rfl (hexX (l.getD i 0) 4) rfl _ rfl
  have e1 : IntKind.i64.wrap ((i : Int) + 1) = ((i + 1 : Nat) : Int) := wrap_add1 (by omega)
  refine key.trans ?_
  clear key
  simp only [e1, dT (show (i : Int) < l.length by omega), dT (show (0 : Int) ≤ (i : Int) by omega), Bool.and_self, cond_true]
  generalize l.getD i 0 = c at hc ⊢
  have h1 := hexX_len (qHi c) 4
  have h2 := hexX_len (qLo c) 4
  have h3 := hexX_len c 4
  have a1 : (y.add 0 2 [92, 117]).t.length = y.t.length + 2 := by rw [Bld.add_t, List.length_append]; rfl
  have a2 : ((y.add 0 2 [92, 117]).add 0 2 (hexX (qHi c) 4)).t.length = y.t.length + 2 + (hexX (qHi c) 4).length := by rw [Bld.add_t, List.length_append, a1]
  have a3 : (((y.add 0 2 [92, 117]).add 0 2 (hexX (qHi c) 4)).add 0 2 [92, 117]).t.length = y.t.length + 2 + (hexX (qHi c) 4).length + 2 := by rw [Bld.add_t, List.length_append, a2]; rfl
  unfold qB
  cases plnM c with
  | true =>
    have hw : IntKind.u8.wrap c = ((UInt8.ofNat (IntKind.u8.wrap c).toNat).toNat : Int) := by
      have e : IntKind.u8.wrap c = c % 256 := by simp [IntKind.wrap, IntKind.signed, IntKind.bits]
      rw [e, UInt8.toNat_ofNat']
      omega
    exact (congrArg (fun c => cond c _ none) (tst_true ⟨⟨hy, by omega⟩, .cons (.refl _) (.cons (by rw [← hw]; exact .refl _) (.refl _)), by trivial⟩)).trans rfl
  | false =>
    simp only [cond_false]
    by_cases hb : c > 65535
    · have b1 := qHi_is c hb hc.2
      have b2 := qLo_is c hb hc.2
      rw [dT hb, cond_true, cond_true]
      refine (congrArg (fun c => cond c _ none) (tst_true ⟨⟨hy, by omega⟩, .refl _, by trivial⟩)).trans ((cond_true _ _).trans ?_)
      refine (congrArg (fun c => cond c _ none) (dT ⟨(by show 0 ≤ qHi c; omega), .inr ⟨by trivial, (by show qHi c ≤ 65535; omega)⟩⟩)).trans ((cond_true _ _).trans ?_)
      refine (congrArg (fun c => cond c _ none) (tst_true ⟨⟨Bld.add_can hy [92, 117], by omega⟩, .refl _, by trivial⟩)).trans ((cond_true _ _).trans ?_)
      refine (congrArg (fun c => cond c _ none) (tst_true ⟨⟨Bld.add_can (Bld.add_can hy [92, 117]) (hexX (qHi c) 4), by omega⟩, .refl _, by trivial⟩)).trans ((cond_true _ _).trans ?_)
      refine (congrArg (fun c => cond c _ none) (dT ⟨(by show 0 ≤ qLo c; omega), .inr ⟨by trivial, (by show qLo c ≤ 65535; omega)⟩⟩)).trans ((cond_true _ _).trans ?_)
      exact (congrArg (fun c => cond c _ none) (tst_true ⟨⟨Bld.add_can (Bld.add_can (Bld.add_can hy [92, 117]) (hexX (qHi c) 4)) [92, 117], by omega⟩, .refl _, by trivial⟩)).trans rfl
    · rw [dF hb, cond_false, cond_false]
      refine (congrArg (fun c => cond c _ none) (tst_true ⟨⟨hy, by omega⟩, .refl _, by trivial⟩)).trans ((cond_true _ _).trans ?_)
      refine (congrArg (fun c => cond c _ none) (dT ⟨(by omega), .inr ⟨by trivial, (by omega)⟩⟩)).trans ((cond_true _ _).trans ?_)
      exact (congrArg (fun c => cond c _ none) (tst_true ⟨⟨Bld.add_can hy [92, 117], by omega⟩, .refl _, by trivial⟩)).trans rfl
theorem lqSp_ok : SpOK lqTurn 38 [3,8,9,10] [] [3] [] (lqSp lqE) := mkL_ok fun a h => by
  obtain ⟨x, l, i, f⟩ := a
  obtain ⟨h1, h2, h3, h4, h5⟩ := h
  simp only at h1 h2 h3 h4 h5
  subst h3
  refine ⟨_, _, _, _, fun k => rfl, ?_⟩
  have hc := fun i => Bld.adds_can ((l.take i).flatMap qB) h1
  have ht : ∀ i, i < l.length → (x.adds ((l.take i).flatMap qB)).t.length ≤ 1073741000 := fun i hi => by
    have := flat_len_take (fun c => (qB c).flatten) 12 qB_len l i
    rw [Bld.adds_t, flatMap_flatten, List.length_append, h2]
    omega
  have key := seq_runs (turn := lqTurn) (n := 38) (l := [3,8,9,10]) (m := []) (lx := [3]) (mx := []) (fun i => [.ptr (.hp 0) 0, encL f ucRow 0 l, .int .i64 l.length, .int .i64 (i : Nat)]) (fun _ => []) (fun i => (b0H.mk (x.adds ((l.take i).flatMap qB))).heap) l.length (e := .exit 0) (by simp)
    (fun i hi D k => by
      refine (lq_rd f l _ (hc i) (ht i hi) (by omega) i hi (h5 _ (by rw [List.getD_eq_getElem?_getD, List.getElem?_eq_getElem hi]; exact List.getElem_mem hi)) D k).trans ?_
      rw [take_flat l 0 qB i hi, Bld.adds_app])
    (fun D k => by
      refine (lq_step hexX plnM chP lqE _ f l l.length l.length D k _ rfl _ rfl _ rfl _ rfl _ rfl _ rfl _ rfl _ rfl _ rfl _ rfl _ rfl _ rfl _ rfl _ rfl _ rfl _ rfl _ rfl _ rfl _ rfl _ rfl _ rfl _ rfl _ rfl).trans ?_
      rw [dF (show ¬ (l.length : Int) < l.length by omega), cond_false])
  rw [List.take_of_length_le (Nat.le_refl _)] at key
  exact key
theorem layLq_ok : (layLq hexX plnM chP lqE).OK Tryd.prog := layLq0_ok.loop1 (id := 4) (by kernel_rfl) (by kernel_rfl) (by kernel_rfl) lqSp_ok
def qT (l : List Int) : List UInt8 := l.flatMap (fun c => (qB c).flatten)
def quoP (s : List UInt8) : List UInt8 := [34] ++ qT (chP s) ++ [34]
theorem qT_len (l : List Int) : (qT l).length ≤ 12 * l.length := flat_len _ 12 qB_len l
theorem quoP_len (s : List UInt8) : (quoP s).length ≤ 12 * s.length + 2 := by
  have := qT_len (chP s)
  have := chP_len s
  unfold quoP
  simp
  omega
theorem quo_ok (s : List UInt8) (hs : s.length ≤ 26843545) : CallOK Tryd.prog 96 [.str s] [] (.ret (.str (quoP s)) []) := by
  have hd : decL (fun (r : List AVal) => intOf (r.getD 0 AVal.undef)) (AVal.list false (chP s).length fun (i : Nat) => ucRow ((chP s).getD i 0)) = chP s := decL_encL (fun a => rfl) _
  have hl := chP_len s
  have hq := qT_len (chP s)
  have c0 : (Bld.new.add 0 2 [34]).can 0 2 := Bld.add_can (Bld.new_can 0 2) [34]
  have c1 : (lqE (Bld.new.add 0 2 [34]) (chP s)).can 0 2 := Bld.adds_can ((chP s).flatMap qB) c0
  have c2 := Bld.add_can c1 [34]
  have t1 : (lqE (Bld.new.add 0 2 [34]) (chP s)).t = [34] ++ qT (chP s) := by
    unfold lqE
    rw [Bld.adds_t, flatMap_flatten, Bld.add_t]; rfl
  have t2 : ((lqE (Bld.new.add 0 2 [34]) (chP s)).add 0 2 [34]).t = quoP s := by rw [Bld.add_t, t1]; rfl
  have l1 : (lqE (Bld.new.add 0 2 [34]) (chP s)).t.length ≤ 1073741000 := by rw [t1]; simp; omega
  have l2 : ((lqE (Bld.new.add 0 2 [34]) (chP s)).add 0 2 [34]).t.length ≤ 1073741824 := by rw [Bld.add_t, List.length_append]; simp only [List.length_singleton]; omega
  have huc : okUc (chP s) := fun c hc => by
    have := chP_ok s c hc
    omega
  have key := fun k => lquote_fun hexX plnM chP lqE s k (chP s).length (by rw [hd]) (lqE (Bld.new.add 0 2 [34]) (chP s)).v (by rw [hd]; rfl) (lqE (Bld.new.add 0 2 [34]) (chP s)).t (by rw [hd]; rfl) _ rfl ((lqE (Bld.new.add 0 2 [34]) (chP s)).add 0 2 [34]).t (by rw [hd]; rfl)
  simp only [hd] at key
  replace key := fun k => (key k).trans
    ((congrArg (fun c => cond c _ none) (tst_true ⟨⟨Bld.new_can 0 2, by omega⟩, .refl _, by trivial⟩)).trans ((cond_true _ _).trans
    ((congrArg (fun c => cond c _ none) (dT (by omega))).trans ((cond_true _ _).trans
    ((congrArg (fun c => cond c _ none) (tst_true ⟨⟨c0, by trivial, by trivial, by omega, huc⟩, .refl _, by trivial⟩)).trans ((cond_true _ _).trans
    ((congrArg (fun c => cond c _ none) (tst_true ⟨⟨c1, by omega⟩, .refl _, by trivial⟩)).trans ((cond_true _ _).trans
    ((congrArg (fun c => cond c _ none) (tst_true ⟨⟨c2, by omega⟩, .refl _, by trivial⟩)).trans (cond_true _ _))))))))))
  rw [← t2]
  exact layLq_ok.callF rfl key
theorem quoTold_ok : ∀ xs H k out, pescTold quoP xs H k = some out → ∃ o, CallOK Tryd.prog 96 xs H o ∧ k o = some out := mkFS_ok fun ys xs e h => by
  obtain ⟨s, rfl⟩ : ∃ s, xs = [.str s] := ⟨_, e⟩
  exact ⟨_, fun k => rfl, quo_ok s (of_decide_eq_true h)⟩
end Go.Mu
set_option linter.unusedVariables false
set_option linter.unusedSimpArgs false
set_option maxRecDepth 100000
namespace Go.Mu
open Go Go.Proofs
def reR : ReR := fun t => (escT t, t.length - 1)
noncomputable abbrev reTurn := lturn Tryd.prog (layRe0 rpP) (reFH reR) 24 4 [3,4,5] [] [4] []
theorem reSp_ok : SpOK reTurn 49 [3,4,5] [] [4] [] (reSp reR) := mkL_ok fun a h => by
  obtain ⟨l, i⟩ := a
  obtain ⟨h1, h2⟩ := h
  simp only at h1 h2
  subst h1
  have hl := fun i => flat_len_take escC 5 escC_len l i
  have key := app_runs (turn := reTurn) (n := 49) (l := [3,4,5]) (m := []) (lx := [4]) (mx := []) (sz := 1) (fun a i => [.str l, a, .int .i64 (i : Nat)]) (fun a => [a]) (fun i => ((l.take i).flatMap escC).map byteRow) l.length (e := .exit 0) (by simp)
    (fun h D k => by
      refine (re_s0 reR rpP l ((0 : Nat) : Int) D k).trans ?_
      have e1 : IntKind.i64.wrap (((0 : Nat) : Int) + 1) = ((1 : Nat) : Int) := wrap_add1 (by omega)
      have q38 : (((l.getD 0 0).toNat : Int) == 38) = (l.getD 0 0 == 38) := eqc (by decide)
      have q60 : (((l.getD 0 0).toNat : Int) == 60) = (l.getD 0 0 == 60) := eqc (by decide)
      have q62 : (((l.getD 0 0).toNat : Int) == 62) = (l.getD 0 0 == 62) := eqc (by decide)
      have q34 : (((l.getD 0 0).toNat : Int) == 34) = (l.getD 0 0 == 34) := eqc (by decide)
      have q39 : (((l.getD 0 0).toNat : Int) == 39) = (l.getD 0 0 == 39) := eqc (by decide)
      have q43 : (((l.getD 0 0).toNat : Int) == 43) = (l.getD 0 0 == 43) := eqc (by decide)
      simp only [Int.toNat_natCast, e1, q38, q60, q62, q34, q39, q43, take_flat l 0 escC 0 h, List.take_zero, List.flatMap_nil, List.nil_append, dT (show ((0 : Nat) : Int) < l.length by omega), dT (show (0 : Int) ≤ ((0 : Nat) : Int) by omega), Bool.and_self, cond_true]
      generalize l.getD 0 0 = c
      unfold escC
      cases c == 38 <;> cases c == 60 <;> cases c == 62 <;> cases c == 34 <;> cases c == 39 <;> cases c == 43 <;> rfl)
    (fun i h D k => by
      refine (re_s1 reR rpP l ((i + 1 : Nat) : Int) _ i _ D k).trans ?_
      have e1 : IntKind.i64.wrap (((i + 1 : Nat) : Int) + 1) = ((i + 2 : Nat) : Int) := wrap_add1 (by omega)
      have hi := hl (i + 1)
      have q38 : (((l.getD (i + 1) 0).toNat : Int) == 38) = (l.getD (i + 1) 0 == 38) := eqc (by decide)
      have q60 : (((l.getD (i + 1) 0).toNat : Int) == 60) = (l.getD (i + 1) 0 == 60) := eqc (by decide)
      have q62 : (((l.getD (i + 1) 0).toNat : Int) == 62) = (l.getD (i + 1) 0 == 62) := eqc (by decide)
      have q34 : (((l.getD (i + 1) 0).toNat : Int) == 34) = (l.getD (i + 1) 0 == 34) := eqc (by decide)
      have q39 : (((l.getD (i + 1) 0).toNat : Int) == 39) = (l.getD (i + 1) 0 == 39) := eqc (by decide)
      have q43 : (((l.getD (i + 1) 0).toNat : Int) == 43) = (l.getD (i + 1) 0 == 43) := eqc (by decide)
      simp only [Int.toNat_natCast, e1, q38, q60, q62, q34, q39, q43, take_flat l 0 escC (i + 1) h, List.map_append, List.length_append, List.length_map, List.append_eq, beq_self_eq_true, dT (show ((i + 1 : Nat) : Int) < l.length by omega), dT (show (0 : Int) ≤ ((i + 1 : Nat) : Int) by omega), dT (show (2 * (((l.take (i + 1)).flatMap escC).length + 5) + 1000) * 1 ≤ 281474976710656 by omega), dT (show (2 * (((l.take (i + 1)).flatMap escC).length + 4) + 1000) * 1 ≤ 281474976710656 by omega), dT (show (2 * (((l.take (i + 1)).flatMap escC).length + 1) + 1000) * 1 ≤ 281474976710656 by omega), Bool.and_self, cond_true]
      generalize l.getD (i + 1) 0 = c
      unfold escC
      cases c == 38 <;> cases c == 60 <;> cases c == 62 <;> cases c == 34 <;> cases c == 39 <;> cases c == 43 <;> rfl)
    (fun h D k => by
      refine (re_s0 reR rpP l ((0 : Nat) : Int) D k).trans ?_
      rw [h]
      rfl)
    (fun i h D k => by
      refine (re_s1 reR rpP l ((i + 1 : Nat) : Int) _ i _ D k).trans ?_
      simp only [dF (show ¬ ((i + 1 : Nat) : Int) < l.length by omega), cond_false])
  rw [List.take_of_length_le (Nat.le_refl _)] at key
  show ∃ e vs bs H', (∀ k : AExit → List AVal → List (List AVal) → Heap → Ans, cond (l == []) _ _ = k e vs bs H') ∧ _
  cases l with
  | nil => exact ⟨_, _, _, _, fun k => rfl, key⟩
  | cons c l =>
    refine ⟨_, _, _, _, fun k => rfl, ?_⟩
    rw [if_neg (by simp), if_neg (by simp), List.length_map] at key
    exact key
theorem layRe0_ok : (layRe0 rpP).OK Tryd.prog := Lay.nil_ok.addF rrTold_ok
theorem layRe_ok : (layRe rpP reR).OK Tryd.prog := layRe0_ok.loop1 (id := 4) (by kernel_rfl) (by kernel_rfl) (by kernel_rfl) reSp_ok
theorem re_ok (s : List UInt8) (hs : s.length ≤ 1073741824) : CallOK Tryd.prog 24 [.str s] [] (.ret (.str (escP s)) []) := by
  have hlen := rpP_len s
  have key := fun k => re_fun rpP reR s k
  simp only [dT hs, cond_true] at key
  replace key := fun k => (key k).trans ((congrArg (fun c => cond c _ none) (tst_true ⟨⟨rfl, by show (rpP s).length ≤ _; omega⟩, .refl _, by trivial⟩)).trans (cond_true _ _))
  cases hb : rpP s == [] with
  | true =>
    have h0 : rpP s = [] := by simpa using hb
    refine layRe_ok.callF (G := []) rfl (fun k => (key k).trans ?_)
    rw [hb, cond_true]
    show _ = k (.ret (.str (escT (rpP s))) [])
    rw [h0]; rfl
  | false =>
    refine layRe_ok.callF (G := [.arr 1 ((escP s).map byteRow) ((rpP s).length - 1)]) rfl (fun k => (key k).trans ?_)
    rw [hb, cond_false]
    exact fin_bytes (escP s) ((rpP s).length - 1) _ k
def rescTold (R : List UInt8 → List UInt8) : FSp := mkFS [.s] (fun xs => decide ((aS xs 0).length ≤ 1073741824)) (fun xs k => k (.ret (.str (R (aS xs 0))) []))
theorem rescTold_ok : ∀ xs H k out, rescTold escP xs H k = some out → ∃ o, CallOK Tryd.prog 24 xs H o ∧ k o = some out := mkFS_ok fun ys xs e h => by
  obtain ⟨s, rfl⟩ : ∃ s, xs = [.str s] := ⟨_, e⟩
  rw [decide_eq_true_eq] at h
  exact ⟨_, fun k => rfl, re_ok s h⟩
end Go.Mu
set_option linter.unusedVariables false
set_option linter.unusedSimpArgs false
set_option maxRecDepth 100000
namespace Go.Mu
open Go Go.Proofs

def oBad (c : UInt8) : Bool := cond (cond (!cond (decide (IntKind.u8.wrap (BitVec.ofInt 8 (c.toNat : Int) ||| BitVec.ofInt 8 32).toNat ≥ 97)) (decide (IntKind.u8.wrap (BitVec.ofInt 8 (c.toNat : Int) ||| BitVec.ofInt 8 32).toNat ≤ 122)) false) ((c.toNat : Int) != 95) false)
  (cond (decide ((c.toNat : Int) < 48)) true (decide ((c.toNat : Int) > 57))) false
def oIdxFH : FH := .of [(2, loopSpec 19 [0,1,7,8] [] [4] [] (idxSp wfB decB oBad 207))]
theorem oIdx_step (full : Bool) (l : List UInt8) (i : Nat) (H : Heap) (D : List (FuncId × List AVal)) (k : Kont) : lturn Tryd.prog Lay.nil oIdxFH 189 2 [0,1,7,8] [] [4] [] (stL 19 [0,1,7,8] [encL full byteRow 0 l, .func 207 [], .int .i64 l.length, .int .i64 i] [] [] H D) k =
    cond (decide ((i : Int) < l.length)) (cond (decide ((i : Int) < l.length)) (cond (oBad (l.getD (i : Int).toNat 0)) (k .ret (stL 19 [4] [.int .i64 i] [] [] H D)) (k .normal (stL 19 [0,1,7,8] [encL full byteRow 0 l, .func 207 [], .int .i64 l.length, .int .i64 (IntKind.i64.wrap ((i : Int) + 1))] [] [] H D))) none)
      (k (.exit 0) (stL 19 [4] [.undef] [] [] H D)) := by kernel_rfl
def layA : Lay := Lay.nil.addL 189 oIdxFH
theorem layA_ok : layA.OK Tryd.prog := Lay.nil_ok.loop1 (id := 2) (by kernel_rfl) (by kernel_rfl) (by kernel_rfl) (idxSp_ok wfB_sub oIdx_step)
def rBadA (c : UInt8) : Bool := cond (!cond (cond (decide ((c.toNat : Int) ≥ 97)) (decide ((c.toNat : Int) ≤ 122)) false) true (cond (decide ((c.toNat : Int) ≥ 65)) (decide ((c.toNat : Int) ≤ 90)) false)) ((c.toNat : Int) != 95) false
def rDig (c : UInt8) : Bool := cond (decide ((c.toNat : Int) ≥ 48)) (decide ((c.toNat : Int) ≤ 57)) false
theorem oBad_eq (c : UInt8) : oBad c = (rBadA c && !rDig c) := by
  have h : ∀ n : Fin 256, oBad (UInt8.ofNat n) = (rBadA (UInt8.ofNat n) && !rDig (UInt8.ofNat n)) := by decide +kernel
  have := h ⟨c.toNat, c.toNat_lt⟩
  simpa using this
theorem rDig_bad (c : UInt8) : (rDig c || oBad c) = rBadA c := by
  have h : ∀ n : Fin 256, (rDig (UInt8.ofNat n) || oBad (UInt8.ofNat n)) = rBadA (UInt8.ofNat n) := by decide +kernel
  have := h ⟨c.toNat, c.toNat_lt⟩
  simpa using this
def nmHit (s : List UInt8) (i : Nat) : Bool := rBadA (s.getD i 0) && (i == 0 || !rDig (s.getD i 0))
def nameB (s : List UInt8) : Bool := decide (1 ≤ s.length ∧ s.length ≤ 32) && !(List.range s.length).any (nmHit s)
theorem nmHit_any (c : UInt8) (t : List UInt8) : (List.range (c :: t).length).any (nmHit (c :: t)) = (rBadA c || t.any oBad) := by
  rw [List.length_cons, List.range_succ_eq_map, List.any_cons, List.any_map]
  have h0 : nmHit (c :: t) 0 = rBadA c := by simp [nmHit]
  have h1 : (nmHit (c :: t) ∘ Nat.succ) = fun i => oBad (t.getD i 0) := by
    funext i
    simp [nmHit, oBad_eq, List.getD_eq_getElem?_getD]
  rw [h0, h1, any_getD]
def rNameSp : LSp := fun vs bs H k => match vs with
  | [.str s, .int .i64 z] => cond (z == 0 && decide (s.length ≤ 4611686018427387903) && bs.isEmpty) (cond ((List.range s.length).any (nmHit s)) (k .ret [.str s, .bool false] [] H) (k (.exit 0) [.str s, .undef] [] H)) none
  | _ => none
def rNameFH : FH := .of [(2, loopSpec 40 [0,3] [] [0,2] [] rNameSp)]
noncomputable abbrev rNameTurn := lturn Tryd.prog layA rNameFH 93 2 [0,3] [] [0,2] []
theorem rName_step0 (i : Nat) (s : List UInt8) (H : Heap) (D : List (FuncId × List AVal)) (k : Kont) : rNameTurn (stL 40 [0,3] [.str s, .int .i64 i] [] [] H D) k =
  cond (decide ((i : Int) < s.length)) (cond (decide ((i : Int) < s.length))
    (cond (decide ((i : Int) < s.length) || !!cond (cond (decide (((s.getD (i : Int).toNat 0).toNat : Int) ≥ 97)) (decide (((s.getD (i : Int).toNat 0).toNat : Int) ≤ 122)) false) true (cond (decide (((s.getD (i : Int).toNat 0).toNat : Int) ≥ 65)) (decide (((s.getD (i : Int).toNat 0).toNat : Int) ≤ 90)) false))
      (cond (decide ((i : Int) < s.length) || !(rBadA (s.getD (i : Int).toNat 0) && !((i : Int) == 0)))
        (cond (cond (rBadA (s.getD (i : Int).toNat 0)) (cond ((i : Int) == 0) true (!rDig (s.getD (i : Int).toNat 0))) false) (k .ret (stL 40 [0,2] [.str s, .bool false] [] [] H D)) (k .normal (stL 40 [0,3] [.str s, .int .i64 (IntKind.i64.wrap ((i : Int) + 1))] [] [] H D)))
        none) none) none)
  (k (.exit 0) (stL 40 [0,2] [.str s, .undef] [] [] H D)) := by kernel_rfl
theorem rName_step (i : Nat) (s : List UInt8) (H : Heap) (D : List (FuncId × List AVal)) (k : Kont) (hi : i < s.length) (hs : s.length ≤ 4611686018427387903) : rNameTurn (stL 40 [0,3] [.str s, .int .i64 i] [] [] H D) k =
    cond (nmHit s i) (k .ret (stL 40 [0,2] [.str s, .bool false] [] [] H D)) (k .normal (stL 40 [0,3] [.str s, .int .i64 ((i + 1 : Nat) : Int)] [] [] H D)) := by
  rw [rName_step0, decide_eq_true (show (i : Int) < s.length by omega), wrap_add1 (by omega)]
  have e : ((i : Int) == 0) = (i == 0) := by
    rw [Bool.eq_iff_iff]; simp
  simp only [e, nmHit, Int.toNat_natCast, Bool.true_or, cond_true]
  cases rBadA (s.getD i 0) <;> cases (i == 0) <;> cases rDig (s.getD i 0) <;> rfl
theorem rNameSp_ok : SpOK rNameTurn 40 [0,3] [] [0,2] [] rNameSp := by
  intro vs bs H k out ho
  unfold rNameSp at ho
  split at ho
  case h_2 => simp at ho
  rename_i s z
  rw [Bool.cond_eq_ite] at ho
  split at ho
  case isFalse => simp at ho
  rename_i hc
  simp only [Bool.and_eq_true, beq_iff_eq, decide_eq_true_eq, List.isEmpty_iff] at hc
  obtain ⟨⟨rfl, hn⟩, rfl⟩ := hc
  have hrun := fun D k => search_any (turn := rNameTurn) (S := fun i => stL 40 [0,3] [.str s, .int .i64 (i : Nat)] [] [] H D) (hit := nmHit s) (n := s.length) (e0 := .exit 0) (e1 := .ret) (R0 := stL 40 [0,2] [.str s, .undef] [] [] H D) (R1 := stL 40 [0,2] [.str s, .bool false] [] [] H D)
    (fun i k hi => rName_step i s H D k hi hn) (fun k => by rw [rName_step0, decide_eq_false (by omega)]; rfl) (by simp) (by simp) k
  cases ha : (List.range s.length).any (nmHit s) with
  | true =>
    rw [ha] at ho
    exact ⟨_, _, _, _, _, _, .refl _, ⟨_, fun D k => (hrun D k).trans (by rw [ha]; rfl)⟩, .refl _, ho⟩
  | false =>
    rw [ha] at ho
    exact ⟨_, _, _, _, _, _, .refl _, ⟨_, fun D k => (hrun D k).trans (by rw [ha]; rfl)⟩, .refl _, ho⟩
def layB : Lay := layA.addL 93 rNameFH
theorem layB_ok : layB.OK Tryd.prog := layA_ok.loop1 (id := 2) (by kernel_rfl) (by kernel_rfl) (by kernel_rfl) rNameSp_ok
theorem oName_fun (s : List UInt8) (k : Out → Ans) : iFun Tryd.prog (layB.hd Tryd.prog) layB.fhs 0 169 [.str s] [] k =
    cond (decide ((0 : Int) < s.length) || !!cond (s == []) true (decide ((s.length : Int) > 32)))
      (cond (decide ((0 : Int) < s.length) || !((!cond (s == []) true (decide ((s.length : Int) > 32))) && decide (((s.getD 0 0).toNat : Int) ≥ 48)))
        (cond (cond (cond (s == []) true (decide ((s.length : Int) > 32))) true (rDig (s.getD 0 0))) (k (.ret (.bool false) []))
          (cond (wfL wfB (encL false byteRow 0 s) && true && ((s.length : Int) == s.length) && true && decide (s.length ≤ 1099511627776) && true)
            (cond ((decL decB (encL false byteRow 0 s)).any oBad) (k (.ret (.bool false) [])) (k (.ret (.bool true) []))) none)) none) none := by kernel_rfl
theorem oName_call (s : List UInt8) (k : Out → Ans) : iFun Tryd.prog (layB.hd Tryd.prog) layB.fhs 0 169 [.str s] [] k = k (.ret (.bool (nameB s)) []) := by
  rw [oName_fun, wfL_encL wfB_enc, decL_encL decB_enc]
  cases s with
  | nil => rfl
  | cons c t =>
    have h0 : decide ((0 : Int) < ((c :: t).length : Int)) = true := by simp
    have h1 : ((c :: t) == []) = false := rfl
    rw [h0, h1]
    unfold nameB
    rw [nmHit_any]
    by_cases hl : (c :: t).length ≤ 32
    · rw [decide_eq_false (show ¬ (((c :: t).length : Int) > 32) by omega), decide_eq_true (show 1 ≤ (c :: t).length ∧ (c :: t).length ≤ 32 from ⟨by simp, hl⟩), decide_eq_true (show (c :: t).length ≤ 1099511627776 by omega)]
      simp only [List.getD_cons_zero, List.any_cons, beq_self_eq_true, Bool.true_or, Bool.and_self, cond_true, cond_false, Bool.true_and]
      rw [← rDig_bad c]
      cases rDig c <;> cases oBad c <;> cases t.any oBad <;> rfl
    · rw [decide_eq_true (show (((c :: t).length : Int) > 32) by omega), decide_eq_false (show ¬ (1 ≤ (c :: t).length ∧ (c :: t).length ≤ 32) from fun h => hl h.2)]
      rfl
end Go.Mu
set_option linter.unusedVariables false
set_option linter.unusedSimpArgs false
set_option maxRecDepth 100000
namespace Go.Mu
open Go Go.Proofs

structure ArgD where
  kind : Int
  name : List UInt8
  pf : Bool
  path : List (List UInt8)
  int : Int
  text : List UInt8
instance : Inhabited ArgD := ⟨⟨0, [], true, [], 0, []⟩⟩
/- what is told so far -/
def oNameTold : FSp := fun xs H k => match xs, H with
  | [.str s], [] => k (.ret (.bool (nameB s)) [])
  | _, _ => none
theorem oNameTold_ok (xs : List AVal) (H : Heap) (k : Out → Ans) (out : Out) (ho : oNameTold xs H k = some out) : ∃ o, CallOK Tryd.prog 169 xs H o ∧ k o = some out := by
  unfold oNameTold at ho
  split at ho
  · exact ⟨_, layB_ok.call (oName_call _), ho⟩
  · simp at ho
end Go.Mu
set_option linter.unusedVariables false
set_option linter.unusedSimpArgs false
set_option maxRecDepth 100000
namespace Go.Mu
open Go Go.Proofs
structure VaD where
  kind : Int
  int : Int
  text : List UInt8
  lf : Bool
  ln : Nat
  lr : Nat → List AVal
  kf : Bool
  keys : List (List UInt8)
def va0 : VaD := ⟨0, 0, [], true, 0, fun _ => [], true, []⟩
def VaD.list (v : VaD) : AVal := .list v.lf v.ln v.lr
def encVa (v : VaD) : List AVal := [.int .i64 v.kind, .int .i64 v.int, .str v.text, .list v.lf v.ln v.lr, encSs v.kf v.keys]
def rowV : AVal → Nat → List AVal
  | .list _ _ r => r
  | _ => fun _ => []
def decVa (r : List AVal) : VaD := ⟨intOf (r.getD 0 .undef), intOf (r.getD 1 .undef), strOf (r.getD 2 .undef), fullOf (r.getD 3 .undef), lenL (r.getD 3 .undef), rowV (r.getD 3 .undef), fullOf (r.getD 4 .undef), decL decS (r.getD 4 .undef)⟩
theorem decVa_enc (v : VaD) : decVa (encVa v) = v := by
  have : decL decS (encSs v.kf v.keys) = v.keys := decL_encL (fun a => rfl) _
  unfold decVa encVa
  simp only [List.getD_cons_zero, List.getD_cons_succ, intOf, strOf, fullOf, lenL, rowV]
  exact congrArg (fun l => VaD.mk v.kind v.int v.text v.lf v.ln v.lr v.kf l) this
theorem used_fun (v : VaD) (k : Out → Ans) : iFun Tryd.prog (Lay.nil.hd Tryd.prog) Lay.nil.fhs 0 149 [.agg (encVa v)] [] k = (
 let c0 : Bool := v.kind == 6;
  k
  (Out.ret
  (AVal.bool
  (bif
  bif
  bif
  bif bif decide (v.kind ≥ 0) then decide (v.kind ≤ 11) else false then
  bif v.kind == 3 then true else v.int == 0
  else false then
  bif bif v.kind == 4 then true else decide (v.kind ≥ 7) then true else v.text == []
  else false then
  bif bif v.kind == 5 then true else c0 then true else (↑v.ln : Int) == 0
  else false then
  bif c0 then true else (↑v.keys.length : Int) == 0
  else false))
      [])) := by kernel_rfl
/- keys -/
noncomputable def kySp (R : VaD → Bool) : LSp := mkL (fun vs bs H => (decVa (bs.getD 0 []), (aI vs 3).toNat, H)) (fun a => a.2.1 = 0 ∧ a.1.keys.length ≤ 1099511627776) (fun a => [.ptr (.tmp 1) 0, encSs a.1.kf a.1.keys, .int .i64 a.1.keys.length, .int .i64 a.2.1]) (fun a => [encVa a.1]) (fun a => a.2.2)
  (fun a k => cond (R a.1) (k (.exit 0) [.ptr (.tmp 1) 0, .undef] [encVa a.1] a.2.2) (k .ret [.ptr (.tmp 1) 0, .bool false] [encVa a.1] a.2.2))
noncomputable def kyFH (R : VaD → Bool) : FH := .of [(4, loopSpec 41 [1,9,10,11] [1] [1,2] [1] (kySp R))]
def layKy0 : Lay := Lay.nil.addF 169 oNameTold
theorem ky_step (R : VaD → Bool) (v : VaD) (n i : Int) (H : Heap) (D : List (FuncId × List AVal)) (k : Kont) : lturn Tryd.prog layKy0 (kyFH R) 150 4 [1,9,10,11] [1] [1,2] [1] (stL 41 [1,9,10,11] [.ptr (.tmp 1) 0, encSs v.kf v.keys, .int .i64 n, .int .i64 i] [1] [encVa v] H D) k = (
 let m0 : Nat := v.keys.length;
 let n1 : Int := (↑m0 : Int);
 let n2 : Int := IntKind.i64.wrap (i - 1);
 let l3 : List UInt8 := v.keys.getD i.toNat [];
 let c4 : Bool := !nameB l3;
 let c5 : Bool := decide (i > 0);
  bif decide (i < n) then
  bif decide (0 ≤ i) && decide (i < n1) then
  bif decide (0 ≤ n2) && decide (n2 < n1) || !(!c4 && c5) then
  bif bif c4 then true else bif c5 then !Op.bytesLess (v.keys.getD n2.toNat []) l3 else false then
  k AExit.ret
  (stL 41 [1, 2] [AVal.ptr (Oid.tmp 1) 0, AVal.bool false] [1]
  [[AVal.int IntKind.i64 v.kind, AVal.int IntKind.i64 v.int, AVal.str v.text, AVal.list v.lf v.ln v.lr,
  AVal.list v.kf m0 fun (i : Nat) => [AVal.str (v.keys.getD i [])]]]
  H D)
  else
  k AExit.normal
  (stL 41 [1, 9, 10, 11]
  [AVal.ptr (Oid.tmp 1) 0, AVal.list v.kf m0 fun (i : Nat) => [AVal.str (v.keys.getD i [])],
  AVal.int IntKind.i64 n, AVal.int IntKind.i64 (IntKind.i64.wrap (i + 1))]
  [1]
  [[AVal.int IntKind.i64 v.kind, AVal.int IntKind.i64 v.int, AVal.str v.text, AVal.list v.lf v.ln v.lr,
  AVal.list v.kf m0 fun (i : Nat) => [AVal.str (v.keys.getD i [])]]]
  H D)
  else none
  else none
  else
  k (AExit.exit 0)
  (stL 41 [1, 2] [AVal.ptr (Oid.tmp 1) 0, AVal.undef] [1]
  [[AVal.int IntKind.i64 v.kind, AVal.int IntKind.i64 v.int, AVal.str v.text, AVal.list v.lf v.ln v.lr,
  AVal.list v.kf m0 fun (i : Nat) => [AVal.str (v.keys.getD i [])]]]
        H D)) := by kernel_rfl
noncomputable def layKy (R : VaD → Bool) : Lay := layKy0.addL 150 (kyFH R)
theorem ky_fun (R : VaD → Bool) (v : VaD) (k : Out → Ans) : iFun Tryd.prog ((layKy R).hd Tryd.prog) (layKy R).fhs 0 150 [.agg (encVa v)] [] k = (
 let m0 : Nat := v.keys.length;
 let m1 : Nat := (decL decS (AVal.list v.kf m0 fun (i : Nat) => [AVal.str (v.keys.getD i [])])).length;
 let c2 : Bool := fullOf (AVal.list v.kf m0 fun (i : Nat) => [AVal.str (v.keys.getD i [])]);
 let n3 : Int := (↑m1 : Int);
 let m4 : Nat := lenL (AVal.list v.lf v.ln v.lr);
  bif v.kind != 6 then k (Out.ret (AVal.bool true) [])
  else
  bif
  tst
  ((Int.toNat 0 = 0 ∧ m1 ≤ 1099511627776) ∧
  SubTL
  [AVal.ptr (Oid.tmp 1) 0, AVal.list v.kf m0 fun (i : Nat) => [AVal.str (v.keys.getD i [])],
  AVal.int IntKind.i64 (↑m0 : Int), AVal.int IntKind.i64 0]
  [AVal.ptr (Oid.tmp 1) 0,
  AVal.list c2 m1 fun (i : Nat) =>
  [AVal.str
  ((decL decS (AVal.list v.kf v.keys.length fun (i : Nat) => [AVal.str (v.keys.getD i [])])).getD i
  [])],
  AVal.int IntKind.i64 n3, AVal.int IntKind.i64 (↑(Int.toNat 0) : Int)] ∧
  [[AVal.int IntKind.i64 v.kind, AVal.int IntKind.i64 v.int, AVal.str v.text, AVal.list v.lf v.ln v.lr,
  AVal.list v.kf m0 fun (i : Nat) => [AVal.str (v.keys.getD i [])]]] =
  [encVa
  (VaD.mk v.kind v.int v.text (fullOf (AVal.list v.lf v.ln v.lr)) m4 (rowV (AVal.list v.lf v.ln v.lr))
  c2 (decL decS (AVal.list v.kf m0 fun (i : Nat) => [AVal.str (v.keys.getD i [])])))] ∧
  ([] : Heap) = []) then
  bif
  R
  (VaD.mk v.kind v.int v.text (fullOf (AVal.list v.lf v.ln v.lr)) m4 (rowV (AVal.list v.lf v.ln v.lr)) c2
  (decL decS (AVal.list v.kf m0 fun (i : Nat) => [AVal.str (v.keys.getD i [])]))) then
  k (Out.ret (AVal.bool (n3 == (↑m4 : Int))) [])
  else k (Out.ret (AVal.bool false) [])
  else none) := by kernel_rfl
/- small ones -/
def fToldB (B : List UInt8 → Bool) (n : Nat) : FSp := mkFS [.s] (fun xs => decide ((aS xs 0).length ≤ n)) (fun xs k => k (.ret (.bool (B (aS xs 0))) []))
def layCf (B : List UInt8 → Bool) : Lay := Lay.nil.addF 74 (fToldB B 1099511627776)
theorem cssf_fun (B : List UInt8 → Bool) (s : List UInt8) (k : Out → Ans) : iFun Tryd.prog ((layCf B).hd Tryd.prog) (layCf B).fhs 0 102 [.str s] [] k = (
  bif decide (s.length ≤ 1099511627776) then
  bif B s then k (Out.ret (AVal.str s) []) else k (Out.ret (AVal.str [90, 103, 111, 116, 109, 112, 108, 90]) [])
  else none) := by kernel_rfl
def layJe (Q : List UInt8 → List UInt8) : Lay := Lay.nil.addF 96 (pescTold Q)
theorem jsE_fun (Q : List UInt8 → List UInt8) (s : List UInt8) (k : Out → Ans) : iFun Tryd.prog ((layJe Q).hd Tryd.prog) (layJe Q).fhs 0 101 [.str s] [] k = (
 let n0 : Int := (↑(Q s).length : Int);
 let n1 : Int := IntKind.i64.wrap (n0 - 1);
  bif decide (s.length ≤ 26843545) then
  bif decide (1 ≤ n1) && decide (n1 ≤ n0) then
  k (Out.ret (AVal.str (List.drop (Int.toNat 1) (List.take n1.toNat (Q s)))) [])
  else none
  else none) := by kernel_rfl
theorem fsafe_fun (e n : Int) (k : Out → Ans) : iFun Tryd.prog (Lay.nil.hd Tryd.prog) Lay.nil.fhs 0 48 [.int .i64 e, .int .i64 n] [] k = (
  bif n == 7 then k (Out.ret (AVal.bool (e == 1)) [])
  else
  bif n == 8 then k (Out.ret (AVal.bool (e == 3)) [])
  else
  bif n == 9 then k (Out.ret (AVal.bool (bif e == 4 then true else e == 5)) [])
  else
  bif n == 10 then k (Out.ret (AVal.bool (bif e == 7 then true else e == 9)) [])
  else
  bif n == 11 then k (Out.ret (AVal.bool (bif e == 11 then true else e == 12)) [])
  else k (Out.ret (AVal.bool false) [])) := by kernel_rfl
theorem rsafe_fun (e n : Int) (k : Out → Ans) : iFun Tryd.prog (Lay.nil.hd Tryd.prog) Lay.nil.fhs 0 23 [.int .i64 e, .int .i64 n] [] k = (
  k
  (Out.ret
  (AVal.bool
  (bif
  bif
  bif bif bif n == 7 then e == 1 else false then true else bif n == 8 then e == 3 else false then true
  else bif n == 9 then bif e == 4 then true else e == 5 else false then
  true
  else bif n == 10 then bif e == 7 then true else e == 9 else false then
  true
  else bif n == 11 then bif e == 11 then true else e == 12 else false))
      [])) := by kernel_rfl
end Go.Mu
set_option linter.unusedVariables false
set_option linter.unusedSimpArgs false
set_option maxRecDepth 100000
namespace Go.Mu
open Go Go.Proofs
def usedB (v : VaD) : Bool := bif
          bif
              bif
                  bif bif decide (v.kind ≥ 0) then decide (v.kind ≤ 11) else false then
                    bif v.kind == 3 then true else v.int == 0
                  else false then
                bif bif v.kind == 4 then true else decide (v.kind ≥ 7) then true else v.text == []
              else false then
            bif bif v.kind == 5 then true else (v.kind == 6) then true else (↑v.ln : Int) == 0
          else false then
        bif (v.kind == 6) then true else (↑v.keys.length : Int) == 0
      else false
theorem used_ok (v : VaD) : CallOK Tryd.prog 149 [.agg (encVa v)] [] (.ret (.bool (usedB v)) []) := Lay.nil_ok.callF (G := []) rfl (fun k => used_fun v k)
/- keys -/
def kyHit (v : VaD) (i : Nat) : Bool := bif !nameB (v.keys.getD i []) then true else bif decide ((i : Int) > 0) then !Op.bytesLess (v.keys.getD (i - 1) []) (v.keys.getD i []) else false
def kyR (v : VaD) : Bool := !(List.range v.keys.length).any (kyHit v)
noncomputable abbrev kyTurn := lturn Tryd.prog layKy0 (kyFH kyR) 150 4 [1,9,10,11] [1] [1,2] [1]
theorem ky_rd (v : VaD) (H : Heap) (hl : v.keys.length ≤ 1099511627776) (i : Nat) (hi : i < v.keys.length) (D : List (FuncId × List AVal)) (k : Kont) :
    kyTurn (stL 41 [1,9,10,11] [.ptr (.tmp 1) 0, encSs v.kf v.keys, .int .i64 v.keys.length, .int .i64 (i : Nat)] [1] [encVa v] H D) k = cond (kyHit v i) (k .ret (stL 41 [1,2] [.ptr (.tmp 1) 0, .bool false] [1] [encVa v] H D)) (k .normal (stL 41 [1,9,10,11] [.ptr (.tmp 1) 0, encSs v.kf v.keys, .int .i64 v.keys.length, .int .i64 ((i + 1 : Nat) : Int)] [1] [encVa v] H D)) := by
  refine (ky_step kyR v v.keys.length i H D k).trans ?_
  have e1 : IntKind.i64.wrap ((i : Int) + 1) = ((i + 1 : Nat) : Int) := wrap_add1 (by omega)
  have e2 : IntKind.i64.wrap ((i : Int) - 1) = (i : Int) - 1 := wrap_of (by omega) (by omega)
  have e3 : ((i : Int) - 1).toNat = i - 1 := by omega
  have hg : (decide (0 ≤ (i : Int) - 1) && decide ((i : Int) - 1 < v.keys.length) || !(!!nameB (v.keys.getD i []) && decide ((i : Int) > 0))) = true := by
    by_cases h0 : (i : Int) > 0
    · rw [dT (show 0 ≤ (i : Int) - 1 by omega), dT (show (i : Int) - 1 < v.keys.length by omega)]; rfl
    · rw [dF h0]; simp
  simp only [Int.toNat_natCast, e1, e2, e3, hg, dT (show (i : Int) < v.keys.length by omega), dT (show (0 : Int) ≤ (i : Int) by omega), Bool.and_self, cond_true]
  unfold kyHit
  cases (bif !nameB (v.keys.getD i []) then true else bif decide ((i : Int) > 0) then !Op.bytesLess (v.keys.getD (i - 1) []) (v.keys.getD i []) else false) <;> rfl
theorem kySp_ok : SpOK kyTurn 41 [1,9,10,11] [1] [1,2] [1] (kySp kyR) := mkL_ok fun a h => by
  obtain ⟨v, i, H⟩ := a
  obtain ⟨h1, h2⟩ := h
  simp only at h1 h2
  subst h1
  show ∃ e vs bs H', (∀ k : AExit → List AVal → List (List AVal) → Heap → Ans, cond (kyR v) _ _ = k e vs bs H') ∧ _
  have hN : ∀ D k, kyTurn (stL 41 [1,9,10,11] [.ptr (.tmp 1) 0, encSs v.kf v.keys, .int .i64 v.keys.length, .int .i64 (v.keys.length : Nat)] [1] [encVa v] H D) k = k (.exit 0) (stL 41 [1,2] [.ptr (.tmp 1) 0, .undef] [1] [encVa v] H D) := fun D k => by
    refine (ky_step kyR v v.keys.length v.keys.length H D k).trans ?_
    rw [dF (show ¬ (v.keys.length : Int) < v.keys.length by omega), cond_false]
    rfl
  unfold kyR
  cases ha : (List.range v.keys.length).find? (kyHit v) with
  | none =>
    rw [find_any.1 ha]
    exact ⟨_, _, _, _, fun k => rfl, none_runs (fun i => [.ptr (.tmp 1) 0, encSs v.kf v.keys, .int .i64 v.keys.length, .int .i64 (i : Nat)]) [encVa v] H (kyHit v) v.keys.length (by simp) (fun i hi D k => ky_rd v H h2 i hi D k) hN ha⟩
  | some j =>
    have : (List.range v.keys.length).any (kyHit v) = true := by
      cases hb : (List.range v.keys.length).any (kyHit v) with
      | true => rfl
      | false => rw [find_any.2 hb] at ha; cases ha
    rw [this]
    exact ⟨_, _, _, _, fun k => rfl, find_runs (fun i => [.ptr (.tmp 1) 0, encSs v.kf v.keys, .int .i64 v.keys.length, .int .i64 (i : Nat)]) [encVa v] H (kyHit v) v.keys.length (v1 := fun _ => [.ptr (.tmp 1) 0, .bool false]) (b1 := fun _ => [encVa v]) (H1 := fun _ => H) (by simp) (fun i hi D k => ky_rd v H h2 i hi D k) ha⟩
theorem layKy0_ok : layKy0.OK Tryd.prog := Lay.nil_ok.addF oNameTold_ok
theorem layKy_ok : (layKy kyR).OK Tryd.prog := layKy0_ok.loop1 (id := 4) (by kernel_rfl) (by kernel_rfl) (by kernel_rfl) kySp_ok
def keysB (v : VaD) : Bool := bif v.kind != 6 then true else bif kyR v then ((v.keys.length : Int) == (v.ln : Int)) else false
theorem dec_ks (v : VaD) : decL decS (AVal.list v.kf v.keys.length fun (i : Nat) => [AVal.str (v.keys.getD i [])]) = v.keys := decL_encL (g := decS) (f := encS) (d := []) (full := v.kf) (fun a => rfl) v.keys
theorem keys_ok (v : VaD) (h : v.keys.length ≤ 1099511627776) : CallOK Tryd.prog 150 [.agg (encVa v)] [] (.ret (.bool (keysB v)) []) := by
  refine layKy_ok.callF (G := []) rfl (fun k => (ky_fun kyR v k).trans ?_)
  simp only [dec_ks, fullOf, lenL, rowV]
  show _ = k (.ret (.bool (keysB v)) [])
  unfold keysB
  cases v.kind != 6 with
  | true => rfl
  | false =>
    refine (congrArg (fun c => cond c _ none) (tst_true ⟨⟨rfl, h⟩, .refl _, by trivial⟩)).trans ((cond_true _ _).trans ?_)
    show cond (kyR v) _ _ = _
    cases kyR v <;> rfl
/- small ones -/
def cssF (s : List UInt8) : List UInt8 := bif plainM s then s else [90, 103, 111, 116, 109, 112, 108, 90]
theorem fToldP_ok : ∀ xs H k out, fToldB plainM 1099511627776 xs H k = some out → ∃ o, CallOK Tryd.prog 74 xs H o ∧ k o = some out := plaTold_ok
theorem layCf_ok : (layCf plainM).OK Tryd.prog := Lay.nil_ok.addF fToldP_ok
theorem cssF_ok (s : List UInt8) (h : s.length ≤ 1099511627776) : CallOK Tryd.prog 102 [.str s] [] (.ret (.str (cssF s)) []) := layCf_ok.callF (G := []) rfl (fun k => (cssf_fun plainM s k).trans (by
  rw [dT h, cond_true]
  unfold cssF
  cases plainM s <;> rfl))
def jsE (s : List UInt8) : List UInt8 := qT (chP s)
theorem layJe_ok : (layJe quoP).OK Tryd.prog := Lay.nil_ok.addF quoTold_ok
theorem jsE_ok (s : List UInt8) (h : s.length ≤ 26843545) : CallOK Tryd.prog 101 [.str s] [] (.ret (.str (jsE s)) []) := layJe_ok.callF (G := []) rfl (fun k => (jsE_fun quoP s k).trans (by
  have hl := qT_len (chP s)
  have hl2 := chP_len s
  have e : (quoP s).length = (qT (chP s)).length + 2 := by unfold quoP; simp
  have e1 : IntKind.i64.wrap ((((quoP s).length : Nat) : Int) - 1) = (((qT (chP s)).length + 1 : Nat) : Int) := by rw [wrap_of (by omega) (by omega)]; omega
  have e2 : List.drop (Int.toNat 1) (List.take ((qT (chP s)).length + 1) (quoP s)) = jsE s := by
    unfold quoP jsE
    rw [show (qT (chP s)).length + 1 = ([34] ++ qT (chP s)).length by simp, List.take_left']
    · rfl
    · rfl
  simp only [e1, dT h, cond_true, Int.toNat_natCast, e2, dT (show (1 : Int) ≤ (((qT (chP s)).length + 1 : Nat) : Int) by omega), dT (show (((qT (chP s)).length + 1 : Nat) : Int) ≤ (((quoP s).length : Nat) : Int) by omega), Bool.and_self]))
def safeB (e n : Int) : Bool := bif n == 7 then e == 1 else bif n == 8 then e == 3 else bif n == 9 then (bif e == 4 then true else e == 5) else bif n == 10 then (bif e == 7 then true else e == 9) else bif n == 11 then (bif e == 11 then true else e == 12) else false
theorem fsafe_ok (e n : Int) : CallOK Tryd.prog 48 [.int .i64 e, .int .i64 n] [] (.ret (.bool (safeB e n)) []) := Lay.nil_ok.callF (G := []) rfl (fun k => (fsafe_fun e n k).trans (by
  unfold safeB
  cases n == 7 <;> cases n == 8 <;> cases n == 9 <;> cases n == 10 <;> cases n == 11 <;> rfl))
theorem rsafe_ok (e n : Int) : CallOK Tryd.prog 23 [.int .i64 e, .int .i64 n] [] (.ret (.bool (safeB e n)) []) := Lay.nil_ok.callF (G := []) rfl (fun k => (rsafe_fun e n k).trans (by
  refine congrArg (fun b => k (.ret (.bool b) [])) ?_
  unfold safeB
  by_cases h7 : n = 7
  · subst h7; cases e == 1 <;> rfl
  by_cases h8 : n = 8
  · subst h8; cases e == 3 <;> rfl
  by_cases h9 : n = 9
  · subst h9; cases e == 4 <;> cases e == 5 <;> rfl
  by_cases h10 : n = 10
  · subst h10; cases e == 7 <;> cases e == 9 <;> rfl
  by_cases h11 : n = 11
  · subst h11; cases e == 11 <;> cases e == 12 <;> rfl
  rw [beq_false_of_ne h7, beq_false_of_ne h8, beq_false_of_ne h9, beq_false_of_ne h10, beq_false_of_ne h11]
  rfl))
end Go.Mu
set_option linter.unusedVariables false
set_option linter.unusedSimpArgs false
set_option maxRecDepth 100000
namespace Go.Mu
open Go Go.Proofs
abbrev encVas (f : Bool) (l : List VaD) : AVal := encL f encVa va0 l
abbrev vals (x : AVal) : List VaD := decL decVa x
def cellsA : AVal → List AVal
  | .agg x => x
  | _ => []
def isV (x : List AVal) : Prop := x = encVa (decVa x)
theorem isV_enc (v : VaD) : isV (encVa v) := by unfold isV; rw [decVa_enc]
noncomputable def vrTold (ok : List AVal → Prop) (post : List AVal → (Out → Ans) → Ans) : FSp := mkF (fun xs H => cellsA (xs.getD 0 .undef)) ok (fun x => [.agg x]) (fun _ => []) post
def usedR (x : List AVal) : Bool := usedB (decVa x)
def keysR (x : List AVal) : Bool := keysB (decVa x)
def kOk (x : List AVal) : Prop := isV x ∧ (decVa x).keys.length ≤ 1099511627776
noncomputable def usedTold : FSp := vrTold isV (fun x k => k (.ret (.bool (usedR x)) []))
noncomputable def kyTold : FSp := vrTold kOk (fun x k => k (.ret (.bool (keysR x)) []))
/- nested -/
abbrev NsT := List AVal → Int → Int
noncomputable def nsTold (W : List AVal → Prop) (N : NsT) : FSp := mkF (fun xs H => (cellsA (xs.getD 0 .undef), aI xs 1)) (fun a => W a.1 ∧ 0 ≤ a.2 ∧ a.2 ≤ 16) (fun a => [.agg a.1, .int .i64 a.2]) (fun _ => []) (fun a k => k (.ret (.int .i64 (N a.1 a.2)) []))
def canV (x : AVal) : AVal := encVas (fullOf x) (vals x)
def lnV (x : AVal) : Nat := (vals x).length
noncomputable def nsSp (Wl : AVal → Prop) (Lb : AVal → Int → Bool) (Lv : AVal → Int → Int) : LSp := mkL (fun vs bs H => (aI vs 0, vs.getD 1 .undef)) (fun a => Wl a.2 ∧ 0 ≤ a.1 ∧ a.1 ≤ 16) (fun a => [.int .i64 a.1, canV a.2, .int .i64 (lnV a.2), .int .i64 0]) (fun _ => []) (fun _ => [])
  (fun a k => cond (Lb a.2 a.1) (k .ret [.int .i64 (Lv a.2 a.1)] [] []) (k (.exit 1) [.undef] [] []))
noncomputable def nsFH (Wl : AVal → Prop) (Lb : AVal → Int → Bool) (Lv : AVal → Int → Int) : FH := .of [(12, loopSpec 59 [1,46,47,48] [] [4] [] (nsSp Wl Lb Lv))]
noncomputable def layNs0 (W : List AVal → Prop) (N : NsT) : Lay := ((Lay.nil.addF 149 usedTold).addF 150 kyTold).addF 94 (nsTold W N)
theorem ns_step (W : List AVal → Prop) (N : NsT) (Wl : AVal → Prop) (Lb : AVal → Int → Bool) (Lv : AVal → Int → Int) (f : Bool) (q : Nat) (g : Nat → VaD) (c n i : Int) (D : List (FuncId × List AVal)) (k : Kont) : lturn Tryd.prog (layNs0 W N) (nsFH Wl Lb Lv) 94 12 [1,46,47,48] [] [4] [] (stL 59 [1,46,47,48] [.int .i64 c, .list f q (fun i => encVa (g i)), .int .i64 n, .int .i64 i] [] [] [] D) k = (
 let n0 : Int :=
  N
  (cellsA
  (AVal.agg
  [AVal.int IntKind.i64 (g i.toNat).kind, AVal.int IntKind.i64 (g i.toNat).int, AVal.str (g i.toNat).text,
  AVal.list (g i.toNat).lf (g i.toNat).ln (g i.toNat).lr,
  AVal.list (g i.toNat).kf (g i.toNat).keys.length fun (i_1 : Nat) =>
  [AVal.str ((g i.toNat).keys.getD i_1 [])]]))
  c;
  bif decide (i < n) then
  bif decide (0 ≤ i) && decide (i < (↑q : Int)) then
  bif
  tst
  ((W
  (cellsA
  (AVal.agg
  [AVal.int IntKind.i64 (g i.toNat).kind, AVal.int IntKind.i64 (g i.toNat).int,
  AVal.str (g i.toNat).text, AVal.list (g i.toNat).lf (g i.toNat).ln (g i.toNat).lr,
  AVal.list (g i.toNat).kf (g i.toNat).keys.length fun (i_1 : Nat) =>
  [AVal.str ((g i.toNat).keys.getD i_1 [])]])) ∧
  0 ≤ c ∧ c ≤ 16) ∧
  SubL
  [AVal.agg
  [AVal.int IntKind.i64 (g i.toNat).kind, AVal.int IntKind.i64 (g i.toNat).int,
  AVal.str (g i.toNat).text, AVal.list (g i.toNat).lf (g i.toNat).ln (g i.toNat).lr,
  AVal.list (g i.toNat).kf (g i.toNat).keys.length fun (i_1 : Nat) =>
  [AVal.str ((g i.toNat).keys.getD i_1 [])]],
  AVal.int IntKind.i64 c]
  [AVal.agg
  (cellsA
  (AVal.agg
  [AVal.int IntKind.i64 (g i.toNat).kind, AVal.int IntKind.i64 (g i.toNat).int,
  AVal.str (g i.toNat).text, AVal.list (g i.toNat).lf (g i.toNat).ln (g i.toNat).lr,
  AVal.list (g i.toNat).kf (g i.toNat).keys.length fun (i_1 : Nat) =>
  [AVal.str ((g i.toNat).keys.getD i_1 [])]])),
  AVal.int IntKind.i64 c] ∧
  ([] : Heap) = []) then
  bif n0 != 0 then k AExit.ret (stL 59 [4] [AVal.int IntKind.i64 n0] [] [] [] D)
  else
  k AExit.normal
  (stL 59 [1, 46, 47, 48]
  [AVal.int IntKind.i64 c, AVal.list f q fun (i : Nat) => encVa (g i), AVal.int IntKind.i64 n,
  AVal.int IntKind.i64 (IntKind.i64.wrap (i + 1))]
  [] [] [] D)
  else none
  else none
  else k (AExit.exit 1) (stL 59 [4] [AVal.undef] [] [] [] D)) := by kernel_rfl
noncomputable def layNs (W : List AVal → Prop) (N : NsT) (Wl : AVal → Prop) (Lb : AVal → Int → Bool) (Lv : AVal → Int → Int) : Lay := (layNs0 W N).addL 94 (nsFH Wl Lb Lv)
theorem ns_fun (W : List AVal → Prop) (N : NsT) (Wl : AVal → Prop) (Lb : AVal → Int → Bool) (Lv : AVal → Int → Int) (v : VaD) (c : Int) (k : Out → Ans) : iFun Tryd.prog ((layNs W N Wl Lb Lv).hd Tryd.prog) (layNs W N Wl Lb Lv).fhs 0 94 [.agg (encVa v), .int .i64 c] [] k = (
 let n0 : Int := IntKind.i64.wrap (c - 1);
 let c1 : Bool := decide ((↑v.text.length : Int) > 4096);
 let n2 : Int := (↑v.ln : Int);
 let m3 : Nat := v.keys.length;
 let c4 : Bool := bif decide (n2 > 1024) then true else decide ((↑m3 : Int) > 1024);
 let c5 : Bool :=
  tst
  (isV
  (cellsA
  (AVal.agg
  [AVal.int IntKind.i64 v.kind, AVal.int IntKind.i64 v.int, AVal.str v.text, AVal.list v.lf v.ln v.lr,
  AVal.list v.kf m3 fun (i : Nat) => [AVal.str (v.keys.getD i [])]])) ∧
  SubL
  [AVal.agg
  [AVal.int IntKind.i64 v.kind, AVal.int IntKind.i64 v.int, AVal.str v.text, AVal.list v.lf v.ln v.lr,
  AVal.list v.kf m3 fun (i : Nat) => [AVal.str (v.keys.getD i [])]]]
  [AVal.agg
  (cellsA
  (AVal.agg
  [AVal.int IntKind.i64 v.kind, AVal.int IntKind.i64 v.int, AVal.str v.text, AVal.list v.lf v.ln v.lr,
  AVal.list v.kf m3 fun (i : Nat) => [AVal.str (v.keys.getD i [])]]))] ∧
  ([] : Heap) = []);
 let c6 : Bool :=
  tst
  (kOk
  (cellsA
  (AVal.agg
  [AVal.int IntKind.i64 v.kind, AVal.int IntKind.i64 v.int, AVal.str v.text, AVal.list v.lf v.ln v.lr,
  AVal.list v.kf m3 fun (i : Nat) => [AVal.str (v.keys.getD i [])]])) ∧
  SubL
  [AVal.agg
  [AVal.int IntKind.i64 v.kind, AVal.int IntKind.i64 v.int, AVal.str v.text, AVal.list v.lf v.ln v.lr,
  AVal.list v.kf m3 fun (i : Nat) => [AVal.str (v.keys.getD i [])]]]
  [AVal.agg
  (cellsA
  (AVal.agg
  [AVal.int IntKind.i64 v.kind, AVal.int IntKind.i64 v.int, AVal.str v.text, AVal.list v.lf v.ln v.lr,
  AVal.list v.kf m3 fun (i : Nat) => [AVal.str (v.keys.getD i [])]]))] ∧
  ([] : Heap) = []);
 let c7 : Bool :=
  bif
  !usedR
  (cellsA
  (AVal.agg
  [AVal.int IntKind.i64 v.kind, AVal.int IntKind.i64 v.int, AVal.str v.text, AVal.list v.lf v.ln v.lr,
  AVal.list v.kf m3 fun (i : Nat) => [AVal.str (v.keys.getD i [])]])) then
  true
  else
  !keysR
  (cellsA
  (AVal.agg
  [AVal.int IntKind.i64 v.kind, AVal.int IntKind.i64 v.int, AVal.str v.text, AVal.list v.lf v.ln v.lr,
  AVal.list v.kf m3 fun (i : Nat) => [AVal.str (v.keys.getD i [])]]));
  bif bif v.kind == 5 then true else v.kind == 6 then
  bif decide (n0 < 0) then k (Out.ret (AVal.int IntKind.i64 42) [])
  else
  bif c1 then k (Out.ret (AVal.int IntKind.i64 5) [])
  else
  bif c4 then k (Out.ret (AVal.int IntKind.i64 3) [])
  else
  bif c5 then
  bif c6 then
  bif c7 then k (Out.ret (AVal.int IntKind.i64 9) [])
  else
  bif
  tst
  ((Wl (AVal.list v.lf v.ln v.lr) ∧ 0 ≤ n0 ∧ n0 ≤ 16) ∧
  SubTL
  [AVal.int IntKind.i64 n0, AVal.list v.lf v.ln v.lr, AVal.int IntKind.i64 n2,
  AVal.int IntKind.i64 0]
  [AVal.int IntKind.i64 n0, canV (AVal.list v.lf v.ln v.lr),
  AVal.int IntKind.i64 (↑(lnV (AVal.list v.lf v.ln v.lr)) : Int), AVal.int IntKind.i64 0] ∧
  ([] : List (List AVal)) = [] ∧ ([] : Heap) = []) then
  bif Lb (AVal.list v.lf v.ln v.lr) n0 then
  k (Out.ret (AVal.int IntKind.i64 (Lv (AVal.list v.lf v.ln v.lr) n0)) [])
  else k (Out.ret (AVal.int IntKind.i64 0) [])
  else none
  else none
  else none
  else
  bif c1 then k (Out.ret (AVal.int IntKind.i64 5) [])
  else
  bif c4 then k (Out.ret (AVal.int IntKind.i64 3) [])
  else
  bif c5 then
  bif c6 then
  bif c7 then k (Out.ret (AVal.int IntKind.i64 9) [])
  else
  bif
  tst
  ((Wl (AVal.list v.lf v.ln v.lr) ∧ 0 ≤ c ∧ c ≤ 16) ∧
  SubTL
  [AVal.int IntKind.i64 c, AVal.list v.lf v.ln v.lr, AVal.int IntKind.i64 n2,
  AVal.int IntKind.i64 0]
  [AVal.int IntKind.i64 c, canV (AVal.list v.lf v.ln v.lr),
  AVal.int IntKind.i64 (↑(lnV (AVal.list v.lf v.ln v.lr)) : Int), AVal.int IntKind.i64 0] ∧
  ([] : List (List AVal)) = [] ∧ ([] : Heap) = []) then
  bif Lb (AVal.list v.lf v.ln v.lr) c then
  k (Out.ret (AVal.int IntKind.i64 (Lv (AVal.list v.lf v.ln v.lr) c)) [])
  else k (Out.ret (AVal.int IntKind.i64 0) [])
  else none
  else none
  else none) := by kernel_rfl
end Go.Mu
set_option linter.unusedVariables false
set_option linter.unusedSimpArgs false
set_option maxRecDepth 100000
namespace Go.Mu
open Go Go.Proofs
noncomputable def wfVa (r : List AVal) : Bool := tst (r = encVa (decVa r))
theorem vrTold_ok {P : Program} {ok : List AVal → Prop} {post : List AVal → (Out → Ans) → Ans} {f : FuncId} (h : ∀ x, ok x → ∃ o, (∀ k, post x k = k o) ∧ CallOK P f [.agg x] [] o) : ∀ xs H k out, vrTold ok post xs H k = some out → ∃ o, CallOK P f xs H o ∧ k o = some out := mkF_ok h
/- values, by depth -/
def wfVal : Nat → VaD → Prop
  | 0, _ => False
  | d + 1, v => -9223372036854775808 ≤ v.int ∧ v.int ≤ 9223372036854775807 ∧ wfL wfVa v.list = true ∧ ∀ x ∈ vals v.list, wfVal d x
def szV : Nat → VaD → Nat
  | 0, _ => 96
  | d + 1, v => 96 + 16 * v.text.length + (v.keys.map (fun k => 16 + 16 * k.length)).sum + ((vals v.list).map (szV d)).sum
theorem szV_64 (d : Nat) (v : VaD) : 64 ≤ szV d v := by
  cases d with
  | zero => unfold szV; omega
  | succ d => unfold szV; omega
theorem sum_ge {α : Type} (f : α → Nat) (c : Nat) (h : ∀ a, c ≤ f a) : ∀ l : List α, c * l.length ≤ (l.map f).sum
  | [] => by simp
  | a :: l => by
    have := sum_ge f c h l
    have := h a
    rw [List.map_cons, List.sum_cons, List.length_cons, Nat.mul_add, Nat.mul_one]
    omega
theorem sum_mem {α : Type} (f : α → Nat) : ∀ (l : List α) (a : α), a ∈ l → f a ≤ (l.map f).sum
  | b :: l, a, h => by
    rw [List.map_cons, List.sum_cons]
    rcases List.mem_cons.1 h with rfl | h
    · omega
    · have := sum_mem f l a h; omega
def WlD (d : Nat) (x : AVal) : Prop := wfL wfVa x = true ∧ (∀ v ∈ vals x, wfVal d v) ∧ ((vals x).map (szV d)).sum ≤ 16777216
def WvD (d : Nat) (x : List AVal) : Prop := isV x ∧ wfVal d (decVa x) ∧ szV d (decVa x) ≤ 16777216
theorem WvD_enc {d : Nat} {v : VaD} (h : wfVal d v) (h2 : szV d v ≤ 16777216) : WvD d (encVa v) := by
  refine ⟨isV_enc v, ?_, ?_⟩ <;> rw [decVa_enc] <;> assumption
theorem WlD_mem {d : Nat} {x : AVal} (h : WlD d x) {v : VaD} (hv : v ∈ vals x) : wfVal d v ∧ szV d v ≤ 16777216 :=
  ⟨h.2.1 v hv, Nat.le_trans (sum_mem (szV d) _ v hv) h.2.2⟩
theorem WlD_len {d : Nat} {x : AVal} (h : WlD d x) : (vals x).length ≤ 1048576 := by
  have := sum_ge (szV d) 64 (szV_64 d) (vals x)
  have := h.2.2
  omega
theorem wf_list {d : Nat} {v : VaD} (h : wfVal (d + 1) v) (h2 : szV (d + 1) v ≤ 16777216) : WlD d v.list := by
  refine ⟨h.2.2.1, h.2.2.2, ?_⟩
  unfold szV at h2
  omega
theorem wf_keys {d : Nat} {v : VaD} (h2 : szV (d + 1) v ≤ 16777216) : v.keys.length ≤ 1048576 := by
  unfold szV at h2
  have := sum_ge (fun k : List UInt8 => 16 + 16 * k.length) 16 (fun k => by omega) v.keys
  omega
theorem canV_sub {d : Nat} {x : AVal} (h : WlD d x) : SubT x (canV x) := subT_encL h.1 (fun r hr => by
  have h3 : r = encVa (decVa r) := of_tst hr
  rw [← h3]; exact .refl _)
theorem lnV_eq {d : Nat} {x : AVal} (h : WlD d x) : lnV x = lenL x := lenL_decL h.1
/- nested -/
def nestB (N : VaD → Int → Int) (v : VaD) (c : Int) : Int :=
  bif decide ((v.text.length : Int) > 4096) then 5 else bif (bif decide ((v.ln : Int) > 1024) then true else decide ((v.keys.length : Int) > 1024)) then 3 else bif (bif !usedB v then true else !keysB v) then 9 else
    bif (vals v.list).any (fun x => N x c != 0) then N ((vals v.list).getD ((vals v.list).findIdx (fun x => N x c != 0)) va0) c else 0
def nestV : Nat → VaD → Int → Int
  | 0, _, _ => 0
  | d + 1, v, c => bif (bif v.kind == 5 then true else v.kind == 6) then (bif decide (c - 1 < 0) then 42 else nestB (nestV d) v (c - 1)) else nestB (nestV d) v c
def nestR (d : Nat) (x : List AVal) (c : Int) : Int := nestV d (decVa x) c
theorem nestR_enc (d : Nat) (v : VaD) (c : Int) : nestR d (encVa v) c = nestV d v c := by unfold nestR; rw [decVa_enc]
def nLb (d : Nat) (x : AVal) (c : Int) : Bool := (vals x).any (fun v => nestV d v c != 0)
def nLv (d : Nat) (x : AVal) (c : Int) : Int := nestV d ((vals x).getD ((vals x).findIdx (fun v => nestV d v c != 0)) va0) c
theorem usedTold_ok : ∀ xs H k out, usedTold xs H k = some out → ∃ o, CallOK Tryd.prog 149 xs H o ∧ k o = some out := vrTold_ok (ok := isV) (post := fun x k => k (.ret (.bool (usedR x)) [])) fun x h => ⟨_, fun k => rfl, by
  have h : x = encVa (decVa x) := h
  have := used_ok (decVa x)
  rw [← h] at this
  exact this⟩
theorem kyTold_ok : ∀ xs H k out, kyTold xs H k = some out → ∃ o, CallOK Tryd.prog 150 xs H o ∧ k o = some out := vrTold_ok (ok := kOk) (post := fun x k => k (.ret (.bool (keysR x)) [])) fun x h => ⟨_, fun k => rfl, by
  have h1 : x = encVa (decVa x) := h.1
  have := keys_ok (decVa x) h.2
  rw [← h1] at this
  exact this⟩
noncomputable abbrev nsTurn (d : Nat) := lturn Tryd.prog (layNs0 (WvD d) (nestR d)) (nsFH (WlD d) (nLb d) (nLv d)) 94 12 [1,46,47,48] [] [4] []
theorem ns_rd (d : Nat) (f : Bool) (l : List VaD) (c : Int) (hl : l.length ≤ 1099511627776) (h0 : 0 ≤ c) (h16 : c ≤ 16) (hW : ∀ v ∈ l, wfVal d v ∧ szV d v ≤ 16777216) (i : Nat) (hi : i < l.length) (D : List (FuncId × List AVal)) (k : Kont) :
    nsTurn d (stL 59 [1,46,47,48] [.int .i64 c, encVas f l, .int .i64 l.length, .int .i64 (i : Nat)] [] [] [] D) k = cond (nestV d (l.getD i va0) c != 0) (k .ret (stL 59 [4] [.int .i64 (nestV d (l.getD i va0) c)] [] [] [] D)) (k .normal (stL 59 [1,46,47,48] [.int .i64 c, encVas f l, .int .i64 l.length, .int .i64 ((i + 1 : Nat) : Int)] [] [] [] D)) := by
  refine (ns_step (WvD d) (nestR d) (WlD d) (nLb d) (nLv d) f l.length (fun i => l.getD i va0) c l.length i D k).trans ?_
  have e1 : IntKind.i64.wrap ((i : Int) + 1) = ((i + 1 : Nat) : Int) := wrap_add1 (by omega)
  have hm : l.getD i va0 ∈ l := by rw [List.getD_eq_getElem?_getD, List.getElem?_eq_getElem hi]; exact List.getElem_mem hi
  obtain ⟨w1, w2⟩ := hW _ hm
  simp only [e1, dT (show (i : Int) < l.length by omega), dT (show (0 : Int) ≤ (i : Int) by omega), Bool.and_self, cond_true, Int.toNat_natCast]
  refine (congrArg (fun b => cond b _ none) (tst_true ⟨⟨WvD_enc w1 w2, h0, h16⟩, .refl _, by trivial⟩)).trans ((cond_true _ _).trans ?_)
  show cond (nestR d (encVa (l.getD i va0)) c != 0) (k .ret (stL 59 [4] [.int .i64 (nestR d (encVa (l.getD i va0)) c)] [] [] [] D)) _ = _
  rw [nestR_enc]
theorem nsSp_ok (d : Nat) : SpOK (nsTurn d) 59 [1,46,47,48] [] [4] [] (nsSp (WlD d) (nLb d) (nLv d)) := mkL_ok fun a h => by
  obtain ⟨c, x⟩ := a
  obtain ⟨h1, h2, h3⟩ := h
  simp only at h1 h2 h3
  have hl := WlD_len h1
  have hW := fun v (hv : v ∈ vals x) => WlD_mem h1 hv
  show ∃ e vs bs H', (∀ k : AExit → List AVal → List (List AVal) → Heap → Ans, cond (nLb d x c) _ _ = k e vs bs H') ∧ _
  have hf := find_getD (fun v => nestV d v c != 0) (vals x) va0
  have hN : ∀ D k, nsTurn d (stL 59 [1,46,47,48] [.int .i64 c, encVas (fullOf x) (vals x), .int .i64 (vals x).length, .int .i64 ((vals x).length : Nat)] [] [] [] D) k = k (.exit 1) (stL 59 [4] [.undef] [] [] [] D) := fun D k => by
    refine (ns_step (WvD d) (nestR d) (WlD d) (nLb d) (nLv d) (fullOf x) (vals x).length (fun i => (vals x).getD i va0) c (vals x).length (vals x).length D k).trans ?_
    rw [dF (show ¬ ((vals x).length : Int) < (vals x).length by omega), cond_false]
  unfold nLb
  cases ha : (vals x).any (fun v => nestV d v c != 0) with
  | false =>
    rw [ha] at hf
    exact ⟨_, _, _, _, fun k => rfl, none_runs (fun i => [.int .i64 c, encVas (fullOf x) (vals x), .int .i64 (vals x).length, .int .i64 (i : Nat)]) [] [] _ (vals x).length (by simp) (fun i hi D k => ns_rd d (fullOf x) (vals x) c (by omega) h2 h3 hW i hi D k) hN hf⟩
  | true =>
    rw [ha] at hf
    exact ⟨_, _, _, _, fun k => rfl, find_runs (fun i => [.int .i64 c, encVas (fullOf x) (vals x), .int .i64 (vals x).length, .int .i64 (i : Nat)]) [] [] _ (vals x).length (v1 := fun i => [.int .i64 (nestV d ((vals x).getD i va0) c)]) (b1 := fun _ => []) (H1 := fun _ => []) (by simp) (fun i hi D k => ns_rd d (fullOf x) (vals x) c (by omega) h2 h3 hW i hi D k) hf⟩
theorem layNs_ok {d : Nat} (h : ∀ xs H k out, nsTold (WvD d) (nestR d) xs H k = some out → ∃ o, CallOK Tryd.prog 94 xs H o ∧ k o = some out) : (layNs (WvD d) (nestR d) (WlD d) (nLb d) (nLv d)).OK Tryd.prog :=
  (((Lay.nil_ok.addF usedTold_ok).addF kyTold_ok).addF h).loop1 (id := 12) (by kernel_rfl) (by kernel_rfl) (by kernel_rfl) (nsSp_ok d)
theorem ns_call {d : Nat} (v : VaD) (c : Int) (hw : wfVal (d + 1) v) (hs : szV (d + 1) v ≤ 16777216) (h0 : 0 ≤ c) (h16 : c ≤ 16) (k : Out → Ans) : iFun Tryd.prog ((layNs (WvD d) (nestR d) (WlD d) (nLb d) (nLv d)).hd Tryd.prog) (layNs (WvD d) (nestR d) (WlD d) (nLb d) (nLv d)).fhs 0 94 [.agg (encVa v), .int .i64 c] [] k = k (.ret (.int .i64 (nestV (d + 1) v c)) []) := by
  refine (ns_fun (WvD d) (nestR d) (WlD d) (nLb d) (nLv d) v c k).trans ?_
  have e1 : IntKind.i64.wrap (c - 1) = c - 1 := wrap_of (by omega) (by omega)
  have hk := wf_keys hs
  have hl := wf_list hw hs
  have hu : usedR (encVa v) = usedB v := by unfold usedR; rw [decVa_enc]
  have hy : keysR (encVa v) = keysB v := by unfold keysR; rw [decVa_enc]
  have ko : kOk (encVa v) := ⟨isV_enc v, by rw [decVa_enc]; omega⟩
  have body : ∀ c, 0 ≤ c → c ≤ 16 → ∀ c5 c6 c8, c5 = true → c6 = true → c8 = true →
      (bif decide ((v.text.length : Int) > 4096) then k (Out.ret (AVal.int IntKind.i64 5) []) else bif (bif decide ((v.ln : Int) > 1024) then true else decide ((v.keys.length : Int) > 1024)) then k (Out.ret (AVal.int IntKind.i64 3) []) else bif c5 then bif c6 then bif (bif !usedR (encVa v) then true else !keysR (encVa v)) then k (Out.ret (AVal.int IntKind.i64 9) []) else bif c8 then bif nLb d v.list c then k (Out.ret (AVal.int IntKind.i64 (nLv d v.list c)) []) else k (Out.ret (AVal.int IntKind.i64 0) []) else none else none else none) = k (.ret (.int .i64 (nestB (nestV d) v c)) []) := by
    intro c h0 h16 c5 c6 c8 h5 h6 h8
    rw [h5, h6, h8, hu, hy]
    unfold nestB nLb nLv
    cases decide ((v.text.length : Int) > 4096) <;> cases (bif decide ((v.ln : Int) > 1024) then true else decide ((v.keys.length : Int) > 1024)) <;> cases (bif !usedB v then true else !keysB v) <;> cases (vals v.list).any (fun x => nestV d x c != 0) <;> rfl
  have e : lnV (AVal.list v.lf v.ln v.lr) = v.ln := lnV_eq (d := d) hl
  have hs8 : ∀ c, SubTL [AVal.int IntKind.i64 c, AVal.list v.lf v.ln v.lr, AVal.int IntKind.i64 (v.ln : Int), AVal.int IntKind.i64 0] [AVal.int IntKind.i64 c, canV (AVal.list v.lf v.ln v.lr), AVal.int IntKind.i64 (↑(lnV (AVal.list v.lf v.ln v.lr)) : Int), AVal.int IntKind.i64 0] := fun c => by
    rw [e]
    exact .cons (.refl _) (.cons (canV_sub hl) (.refl _))
  unfold nestV
  cases (bif v.kind == 5 then true else v.kind == 6) with
  | true =>
    simp only [cond_true, e1]
    by_cases hc : c - 1 < 0
    · rw [dT hc]; rfl
    · rw [dF hc, cond_false, cond_false]
      exact body (c - 1) (by omega) (by omega) _ _ _ (tst_true ⟨isV_enc v, .refl _, by trivial⟩) (tst_true ⟨ko, .refl _, by trivial⟩) (tst_true ⟨⟨hl, by omega, by omega⟩, hs8 _, by trivial⟩)
  | false =>
    simp only [cond_false]
    exact body c h0 h16 _ _ _ (tst_true ⟨isV_enc v, .refl _, by trivial⟩) (tst_true ⟨ko, .refl _, by trivial⟩) (tst_true ⟨⟨hl, h0, h16⟩, hs8 _, by trivial⟩)
theorem nsTold_ok : ∀ (d : Nat) xs H k out, nsTold (WvD d) (nestR d) xs H k = some out → ∃ o, CallOK Tryd.prog 94 xs H o ∧ k o = some out
  | 0 => mkF_ok fun x h => absurd h.1.2.1 (by unfold wfVal; exact id)
  | d + 1 => mkF_ok fun x h => ⟨_, fun k => rfl, by
    obtain ⟨x, c⟩ := x
    obtain ⟨⟨h1, h2, h3⟩, h4, h5⟩ := h
    have h1 : x = encVa (decVa x) := h1
    simp only at h2 h3 h4 h5
    have key := (layNs_ok (nsTold_ok d)).callF (G := []) rfl (fun k => ns_call (decVa x) c h2 h3 h4 h5 k)
    rw [← h1] at key
    exact key⟩
end Go.Mu
set_option linter.unusedVariables false
set_option linter.unusedSimpArgs false
set_option maxRecDepth 100000
namespace Go.Mu
open Go Go.Proofs
abbrev b1P (P0 : Obj) (ad b : AVal) (O : Obj) : Heap := [P0, .var [ad, b], .note bdT 2, O, .note bT 0]
structure b1H where
  P0 : Obj
  x : Bld
abbrev b1H.heap (x : b1H) : Heap := b1P x.P0 x.x.ad x.x.b (.arr 1 x.x.rows x.x.v)
def b1H.dec (H : Heap) : b1H := ⟨H.getD 0 (.var []), bld H 1 3⟩
theorem b1_ws0 (P0 : Obj) (O : Obj) (k : Out → Ans) : iFun Tryd.prog (layW0.hd Tryd.prog) layW0.fhs 0 92 [.ptr (.hp 1) 0, .str []] (b1P P0 .nilptr .nilX O) k = (
  k
  (Out.ret (AVal.tuple [AVal.int IntKind.i64 0, AVal.nilIface])
      [P0, Obj.var [AVal.ptr (Oid.hp 1) 0, AVal.nilX], Obj.note 98 2, O, Obj.note 5 0])) := by kernel_rfl
theorem b1_ws1 (P0 : Obj) (O : Obj) (k : Out → Ans) : iFun Tryd.prog (layW0.hd Tryd.prog) layW0.fhs 0 92 [.ptr (.hp 1) 0, .str []] (b1P P0 (.ptr (.hp 1) 0) .nilX O) k = (
  k
  (Out.ret (AVal.tuple [AVal.int IntKind.i64 0, AVal.nilIface])
      [P0, Obj.var [AVal.ptr (Oid.hp 1) 0, AVal.nilX], Obj.note 98 2, O, Obj.note 5 0])) := by kernel_rfl
theorem b1_ws2 (P0 : Obj) (l : List UInt8) (n v : Nat) (rows : List (List AVal)) (k : Out → Ans) : iFun Tryd.prog (Lay.nil.hd Tryd.prog) Lay.nil.fhs 0 92 [.ptr (.hp 1) 0, .str l] (b1P P0 .nilptr (.own 3 0 n v false) (.arr 1 rows v)) k = (
 let m0 : Nat := n + (List.map (fun (c : UInt8) => [AVal.int IntKind.u8 (↑c.toNat : Int)]) l).length;
 let m1 : Nat := v + 1;
  bif v == v && n == rows.length && decide ((2 * m0 + 1000) * 1 ≤ 281474976710656) && true then
  k
  (Out.ret (AVal.tuple [AVal.int IntKind.i64 (↑l.length : Int), AVal.nilIface])
  [P0, Obj.var [AVal.ptr (Oid.hp 1) 0, AVal.own 3 0 m0 m1 false], Obj.note 98 2,
  Obj.arr 1 (rows.append (List.map (fun (c : UInt8) => [AVal.int IntKind.u8 (↑c.toNat : Int)]) l)) m1,
  Obj.note 5 0])
  else none) := by kernel_rfl
theorem b1_ws3 (P0 : Obj) (l : List UInt8) (n v : Nat) (rows : List (List AVal)) (k : Out → Ans) : iFun Tryd.prog (Lay.nil.hd Tryd.prog) Lay.nil.fhs 0 92 [.ptr (.hp 1) 0, .str l] (b1P P0 (.ptr (.hp 1) 0) (.own 3 0 n v false) (.arr 1 rows v)) k = (
 let m0 : Nat := n + (List.map (fun (c : UInt8) => [AVal.int IntKind.u8 (↑c.toNat : Int)]) l).length;
 let m1 : Nat := v + 1;
  bif v == v && n == rows.length && decide ((2 * m0 + 1000) * 1 ≤ 281474976710656) && true then
  k
  (Out.ret (AVal.tuple [AVal.int IntKind.i64 (↑l.length : Int), AVal.nilIface])
  [P0, Obj.var [AVal.ptr (Oid.hp 1) 0, AVal.own 3 0 m0 m1 false], Obj.note 98 2,
  Obj.arr 1 (rows.append (List.map (fun (c : UInt8) => [AVal.int IntKind.u8 (↑c.toNat : Int)]) l)) m1,
  Obj.note 5 0])
  else none) := by kernel_rfl
theorem b1_wb2 (P0 : Obj) (c : UInt8) (n v : Nat) (rows : List (List AVal)) (k : Out → Ans) : iFun Tryd.prog (Lay.nil.hd Tryd.prog) Lay.nil.fhs 0 56 [.ptr (.hp 1) 0, .int .u8 c.toNat] (b1P P0 .nilptr (.own 3 0 n v false) (.arr 1 rows v)) k = (
 let m0 : Nat := n + 1;
 let m1 : Nat := v + 1;
  bif v == v && n == rows.length && decide ((2 * m0 + 1000) * 1 ≤ 281474976710656) && true then
  k
  (Out.ret AVal.nilIface
  [P0, Obj.var [AVal.ptr (Oid.hp 1) 0, AVal.own 3 0 m0 m1 false], Obj.note 98 2,
  Obj.arr 1 (rows.append [[AVal.int IntKind.u8 (↑c.toNat : Int)]]) m1, Obj.note 5 0])
  else none) := by kernel_rfl
theorem b1_wb3 (P0 : Obj) (c : UInt8) (n v : Nat) (rows : List (List AVal)) (k : Out → Ans) : iFun Tryd.prog (Lay.nil.hd Tryd.prog) Lay.nil.fhs 0 56 [.ptr (.hp 1) 0, .int .u8 c.toNat] (b1P P0 (.ptr (.hp 1) 0) (.own 3 0 n v false) (.arr 1 rows v)) k = (
 let m0 : Nat := n + 1;
 let m1 : Nat := v + 1;
  bif v == v && n == rows.length && decide ((2 * m0 + 1000) * 1 ≤ 281474976710656) && true then
  k
  (Out.ret AVal.nilIface
  [P0, Obj.var [AVal.ptr (Oid.hp 1) 0, AVal.own 3 0 m0 m1 false], Obj.note 98 2,
  Obj.arr 1 (rows.append [[AVal.int IntKind.u8 (↑c.toNat : Int)]]) m1, Obj.note 5 0])
  else none) := by kernel_rfl
theorem b1_len0 (P0 : Obj) (ad : AVal) (O : Obj) (k : Out → Ans) : iFun Tryd.prog (Lay.nil.hd Tryd.prog) Lay.nil.fhs 0 113 [.ptr (.hp 1) 0] (b1P P0 ad .nilX O) k = (
  k (Out.ret (AVal.int IntKind.i64 0) (b1P P0 ad AVal.nilX O))) := by kernel_rfl
theorem b1_len1 (P0 : Obj) (ad : AVal) (n v : Nat) (O : Obj) (k : Out → Ans) : iFun Tryd.prog (Lay.nil.hd Tryd.prog) Lay.nil.fhs 0 113 [.ptr (.hp 1) 0] (b1P P0 ad (.own 3 0 n v false) O) k = (
  k (Out.ret (AVal.int IntKind.i64 (↑n : Int)) (b1P P0 ad (AVal.own 3 0 n v false) O))) := by kernel_rfl
theorem b1_ws (x : b1H) (l : List UInt8) (hx : x.x.can 1 3) (h : x.x.t.length + l.length ≤ 1099511627776) : CallOK Tryd.prog 92 [.ptr (.hp 1) 0, .str l] x.heap (.ret (.tuple [.int .i64 l.length, .nilIface]) ({ x with x := x.x.add 1 3 l } : b1H).heap) := by
  obtain ⟨P0, ⟨ad, b, rows, v⟩⟩ := x
  obtain ⟨h1, h2, h3⟩ := hx
  unfold Bld.add Bld.t
  simp only [Bld.t] at h h1 h2 h3 ⊢
  generalize bytesOf rows = text at *
  subst h2 h3
  cases text with
  | nil =>
    cases l with
    | nil =>
      refine layW0_ok.call (fun k => ?_)
      rcases h1 with rfl | rfl
      · exact b1_ws0 P0 (.arr 1 [] v) k
      · exact b1_ws1 P0 (.arr 1 [] v) k
    | cons c t =>
      refine relAt_ok (i := 1) (c := 1) (j := 3) ?_
      simp only [List.length_nil] at h
      refine Lay.nil_ok.call (fun k => ?_)
      have e3 : wsV [] (c :: t) v = v + 1 + 1 := rfl
      rw [e3]
      generalize hl : c :: t = l at *
      have e4 : bfB 3 ([] ++ l) (v + 1 + 1) = .own 3 0 l.length (v + 1 + 1) false := by rw [← hl]; rfl
      rw [e4]
      rcases h1 with rfl | rfl
      · rw [show relAt 1 1 3 (b1P P0 .nilptr (bfB 3 [] v) (.arr 1 (([] : List UInt8).map byteRow) v)) = b1P P0 .nilptr (.own 3 0 0 (v + 1) false) (.arr 1 [] (v + 1)) from rfl, b1_ws2]
        simp (disch := omega) only [e_map, List.length_map, dT, beq_self_eq_true, Bool.and_true, cond_true, List.append_eq, List.nil_append, Nat.zero_add, List.length_nil, Nat.mul_one, List.map_nil]
      · rw [show relAt 1 1 3 (b1P P0 (.ptr (.hp 1) 0) (bfB 3 [] v) (.arr 1 (([] : List UInt8).map byteRow) v)) = b1P P0 (.ptr (.hp 1) 0) (.own 3 0 0 (v + 1) false) (.arr 1 [] (v + 1)) from rfl, b1_ws3]
        simp (disch := omega) only [e_map, List.length_map, dT, beq_self_eq_true, Bool.and_true, cond_true, List.append_eq, List.nil_append, Nat.zero_add, List.length_nil, Nat.mul_one, List.map_nil]
  | cons c t =>
    refine Lay.nil_ok.call (fun k => ?_)
    have e3 : wsV (c :: t) l v = v + 1 := rfl
    have e4 : bfB 3 ((c :: t) ++ l) (v + 1) = .own 3 0 ((c :: t) ++ l).length (v + 1) false := rfl
    have e5 : bfB 3 (c :: t) v = .own 3 0 (c :: t).length v false := rfl
    rw [e3, e4, e5]
    generalize c :: t = m at *
    rcases h1 with rfl | rfl
    · rw [b1_ws2]
      simp (disch := omega) only [e_map, List.length_map, dT, beq_self_eq_true, Bool.and_true, cond_true, List.append_eq, List.length_append, Nat.mul_one]
    · rw [b1_ws3]
      simp (disch := omega) only [e_map, List.length_map, dT, beq_self_eq_true, Bool.and_true, cond_true, List.append_eq, List.length_append, Nat.mul_one]
theorem b1_wb (x : b1H) (c : UInt8) (hx : x.x.can 1 3) (h : x.x.t.length ≤ 1073741824) : CallOK Tryd.prog 56 [.ptr (.hp 1) 0, .int .u8 c.toNat] x.heap (.ret .nilIface ({ x with x := x.x.add 1 3 [c] } : b1H).heap) := by
  obtain ⟨P0, ⟨ad, b, rows, v⟩⟩ := x
  obtain ⟨h1, h2, h3⟩ := hx
  unfold Bld.add Bld.t
  simp only [Bld.t] at h h1 h2 h3 ⊢
  generalize bytesOf rows = text at *
  subst h2 h3
  have e6 : [c].map byteRow = [[.int .u8 c.toNat]] := rfl
  rw [e6]
  cases text with
  | nil =>
    refine relAt_ok (i := 1) (c := 1) (j := 3) ?_
    refine Lay.nil_ok.call (fun k => ?_)
    have e3 : wsV [] [c] v = v + 1 + 1 := rfl
    have e4 : bfB 3 ([] ++ [c]) (v + 1 + 1) = .own 3 0 1 (v + 1 + 1) false := rfl
    rw [e3, e4]
    rcases h1 with rfl | rfl
    · rw [show relAt 1 1 3 (b1P P0 .nilptr (bfB 3 [] v) (.arr 1 (([] : List UInt8).map byteRow) v)) = b1P P0 .nilptr (.own 3 0 0 (v + 1) false) (.arr 1 [] (v + 1)) from rfl, b1_wb2]
      simp only [beq_self_eq_true]
      rfl
    · rw [show relAt 1 1 3 (b1P P0 (.ptr (.hp 1) 0) (bfB 3 [] v) (.arr 1 (([] : List UInt8).map byteRow) v)) = b1P P0 (.ptr (.hp 1) 0) (.own 3 0 0 (v + 1) false) (.arr 1 [] (v + 1)) from rfl, b1_wb3]
      simp only [beq_self_eq_true]
      rfl
  | cons d t =>
    refine Lay.nil_ok.call (fun k => ?_)
    have e3 : wsV (d :: t) [c] v = v + 1 := rfl
    have e4 : bfB 3 ((d :: t) ++ [c]) (v + 1) = .own 3 0 ((d :: t) ++ [c]).length (v + 1) false := rfl
    have e5 : bfB 3 (d :: t) v = .own 3 0 (d :: t).length v false := rfl
    rw [e3, e4, e5]
    generalize d :: t = m at *
    rcases h1 with rfl | rfl
    · rw [b1_wb2]
      simp (disch := omega) only [e_map, List.length_map, dT, beq_self_eq_true, Bool.and_true, cond_true, List.append_eq, List.length_append, Nat.mul_one, List.length_cons, List.length_nil]
    · rw [b1_wb3]
      simp (disch := omega) only [e_map, List.length_map, dT, beq_self_eq_true, Bool.and_true, cond_true, List.append_eq, List.length_append, Nat.mul_one, List.length_cons, List.length_nil]
theorem b1_len (x : b1H) (hx : x.x.can 1 3) : CallOK Tryd.prog 113 [.ptr (.hp 1) 0] x.heap (.ret (.int .i64 x.x.t.length) x.heap) := by
  obtain ⟨P0, ⟨ad, b, rows, v⟩⟩ := x
  obtain ⟨h1, h2, h3⟩ := hx
  simp only [Bld.t] at h1 h2 h3 ⊢
  generalize bytesOf rows = text at *
  subst h2 h3
  refine Lay.nil_ok.call (fun k => ?_)
  cases text with
  | nil => exact b1_len0 P0 ad _ k
  | cons c t => exact b1_len1 P0 ad (c :: t).length v _ k
theorem b1_str (x : b1H) (hx : x.x.can 1 3) (h : x.x.t.length ≤ 1099511627776) : CallOK Tryd.prog 58 [.ptr (.hp 1) 0] x.heap (.ret (.str x.x.t) ({ x with x := x.x.dead } : b1H).heap) := by
  obtain ⟨P0, ⟨ad, b, rows, v⟩⟩ := x
  obtain ⟨h1, h2, h3⟩ := hx
  unfold Bld.dead Bld.t
  simp only [Bld.t] at h h1 h2 h3 ⊢
  generalize bytesOf rows = text at *
  subst h2 h3
  cases text with
  | nil => exact str_ok0 (cs := [ad, .nilX]) rfl rfl
  | cons c t => exact str_ok (i := 1) (off := 0) (j := 3) (u := v) (cs := [ad, .own 3 0 (c :: t).length v false]) (l := c :: t) rfl rfl rfl rfl (by simp) h
noncomputable def b1_wsTold : FSp := mkF (fun xs H => (b1H.dec H, aS xs 1)) (fun x => x.1.x.can 1 3 ∧ x.1.x.t.length + x.2.length ≤ 1099511627776) (fun x => [.ptr (.hp 1) 0, .str x.2]) (fun x => x.1.heap) (fun x k => k (.ret (.tuple [.int .i64 x.2.length, .nilIface]) ({ x.1 with x := x.1.x.add 1 3 x.2 } : b1H).heap))
noncomputable def b1_wbTold : FSp := mkF (fun xs H => (b1H.dec H, UInt8.ofNat (aI xs 1).toNat)) (fun x => x.1.x.can 1 3 ∧ x.1.x.t.length ≤ 1073741824) (fun x => [.ptr (.hp 1) 0, .int .u8 x.2.toNat]) (fun x => x.1.heap) (fun x k => k (.ret .nilIface ({ x.1 with x := x.1.x.add 1 3 [x.2] } : b1H).heap))
noncomputable def b1_lenTold : FSp := mkF (fun xs H => b1H.dec H) (fun x => x.x.can 1 3) (fun x => [.ptr (.hp 1) 0]) (fun x => x.heap) (fun x k => k (.ret (.int .i64 x.x.t.length) x.heap))
noncomputable def b1_strTold : FSp := mkF (fun xs H => b1H.dec H) (fun x => x.x.can 1 3 ∧ x.x.t.length ≤ 1099511627776) (fun x => [.ptr (.hp 1) 0]) (fun x => x.heap) (fun x k => k (.ret (.str x.x.t) ({ x with x := x.x.dead } : b1H).heap))
noncomputable def b1_lay (L : Lay) : Lay := (((L.addF 92 b1_wsTold).addF 56 b1_wbTold).addF 113 b1_lenTold).addF 58 b1_strTold
theorem b1_ok {L : Lay} (h : L.OK Tryd.prog) : (b1_lay L).OK Tryd.prog :=
  (((h.addF (mkF_ok fun x h => ⟨_, fun k => rfl, b1_ws x.1 x.2 h.1 h.2⟩)).addF (mkF_ok fun x h => ⟨_, fun k => rfl, b1_wb x.1 x.2 h.1 h.2⟩)).addF (mkF_ok fun x h => ⟨_, fun k => rfl, b1_len x h⟩)).addF (mkF_ok fun x h => ⟨_, fun k => rfl, b1_str x h.1 h.2⟩)
end Go.Mu
