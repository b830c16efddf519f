/-
  lex: what the splitter's methods do.
-/
import Derived.Test.YtlbmedmddoljnaaDoorLLex
import Derived.Test.YtlbmedmddoljnaaDoorLStr
set_option linter.unusedVariables false
set_option linter.unusedSimpArgs false
set_option maxRecDepth 100000
set_option maxHeartbeats 2000000
namespace Go.Mu
open Go Go.Proofs
abbrev itT : Nat := 30
abbrev spT : Nat := 64
structure ItemD where
  kind : Int
  text : List UInt8
  at_ : Int
def encItem (x : ItemD) : List AVal := [.int .i64 x.kind, .str x.text, .int .i64 x.at_]
/-- a builder's cells -/
def adB (i off : Nat) (w : Bool) : AVal := match w with
  | false => .nilptr
  | true => .ptr (.hp i) off
def bfB (j : Nat) (text : List UInt8) (v : Nat) : AVal := match text with
  | [] => .nilX
  | c :: t => .own j 0 (c :: t).length v false
/-- the splitter's heap -/
abbrev HsP (U0 U1 U2 : Obj) (s : List UInt8) (o ad b : AVal) (a : Int) (tr : Bool) (O B : Obj) : Heap := [U0, U1, U2, .var [.str s, o, ad, b, .int .i64 a, .bool tr], .note spT 6, O, .note itT 0, B, .note bT 0]
abbrev HsB (U0 U1 U2 : Obj) (s : List UInt8) (o : AVal) (w : Bool) (text : List UInt8) (v : Nat) (a : Int) (tr : Bool) (O : Obj) : Heap := HsP U0 U1 U2 s o (adB 3 2 w) (bfB 7 text v) a tr O (.arr 1 (text.map byteRow) v)
/- WriteString -/
noncomputable def layW0 : Lay := Lay.nil.addL 52 { nils := [14] }
theorem ws_fun0 (U0 U1 U2 O : Obj) (s : List UInt8) (o : AVal) (a : Int) (tr : Bool) (B : Obj) (k : Out → Ans) : iFun Tryd.prog (layW0.hd Tryd.prog) layW0.fhs 0 52 [.ptr (.hp 3) 2, .str []] (HsP U0 U1 U2 s o .nilptr .nilX a tr O B) k = (
  k
    (Out.ret (AVal.tuple [AVal.int IntKind.i64 0, AVal.nilIface])
      [U0, U1, U2, Obj.var [AVal.str s, o, AVal.ptr (Oid.hp 3) 2, AVal.nilX, AVal.int IntKind.i64 a, AVal.bool tr],
        Obj.note 64 6, O, Obj.note 30 0, B, Obj.note 5 0])) := by kernel_rfl
theorem ws_fun1 (U0 U1 U2 O : Obj) (s : List UInt8) (o : AVal) (a : Int) (tr : Bool) (B : Obj) (k : Out → Ans) : iFun Tryd.prog (layW0.hd Tryd.prog) layW0.fhs 0 52 [.ptr (.hp 3) 2, .str []] (HsP U0 U1 U2 s o (.ptr (.hp 3) 2) .nilX a tr O B) k = (
  k
    (Out.ret (AVal.tuple [AVal.int IntKind.i64 0, AVal.nilIface])
      [U0, U1, U2, Obj.var [AVal.str s, o, AVal.ptr (Oid.hp 3) 2, AVal.nilX, AVal.int IntKind.i64 a, AVal.bool tr],
        Obj.note 64 6, O, Obj.note 30 0, B, Obj.note 5 0])) := by kernel_rfl
theorem ws_fun2 (U0 U1 U2 O : Obj) (s l : List UInt8) (o : AVal) (a : Int) (tr : Bool) (n v : Nat) (rows : List (List AVal)) (k : Out → Ans) : iFun Tryd.prog (Lay.nil.hd Tryd.prog) Lay.nil.fhs 0 52 [.ptr (.hp 3) 2, .str l] (HsP U0 U1 U2 s o .nilptr (.own 7 0 n v false) a tr O (.arr 1 rows v)) k = (
  let m0 : Nat := n + (List.map (fun (c : UInt8) => [AVal.int IntKind.u8 (↑c.toNat : Int)]) l).length;
  let m1 : Nat := v + 1;
  bif v == v && n == rows.length && decide ((2 * m0 + 1000) * 1 ≤ 281474976710656) && true then
    k
      (Out.ret (AVal.tuple [AVal.int IntKind.i64 (↑l.length : Int), AVal.nilIface])
        [U0, U1, U2,
          Obj.var [AVal.str s, o, AVal.ptr (Oid.hp 3) 2, AVal.own 7 0 m0 m1 false, AVal.int IntKind.i64 a, AVal.bool tr],
          Obj.note 64 6, O, Obj.note 30 0,
          Obj.arr 1 (rows.append (List.map (fun (c : UInt8) => [AVal.int IntKind.u8 (↑c.toNat : Int)]) l)) m1,
          Obj.note 5 0])
  else none) := by kernel_rfl
theorem ws_fun3 (U0 U1 U2 O : Obj) (s l : List UInt8) (o : AVal) (a : Int) (tr : Bool) (n v : Nat) (rows : List (List AVal)) (k : Out → Ans) : iFun Tryd.prog (Lay.nil.hd Tryd.prog) Lay.nil.fhs 0 52 [.ptr (.hp 3) 2, .str l] (HsP U0 U1 U2 s o (.ptr (.hp 3) 2) (.own 7 0 n v false) a tr O (.arr 1 rows v)) k = (
  let m0 : Nat := n + (List.map (fun (c : UInt8) => [AVal.int IntKind.u8 (↑c.toNat : Int)]) l).length;
  let m1 : Nat := v + 1;
  bif v == v && n == rows.length && decide ((2 * m0 + 1000) * 1 ≤ 281474976710656) && true then
    k
      (Out.ret (AVal.tuple [AVal.int IntKind.i64 (↑l.length : Int), AVal.nilIface])
        [U0, U1, U2,
          Obj.var [AVal.str s, o, AVal.ptr (Oid.hp 3) 2, AVal.own 7 0 m0 m1 false, AVal.int IntKind.i64 a, AVal.bool tr],
          Obj.note 64 6, O, Obj.note 30 0,
          Obj.arr 1 (rows.append (List.map (fun (c : UInt8) => [AVal.int IntKind.u8 (↑c.toNat : Int)]) l)) m1,
          Obj.note 5 0])
  else none) := by kernel_rfl
/-- the splitter's heap, as it lies -/
structure SpH where
  U0 : Obj
  U1 : Obj
  U2 : Obj
  s : List UInt8
  o : AVal
  ad : AVal
  b : AVal
  a : Int
  tr : Bool
  O : Obj
  rows : List (List AVal)
  v : Nat
abbrev SpH.heap (x : SpH) : Heap := HsP x.U0 x.U1 x.U2 x.s x.o x.ad x.b x.a x.tr x.O (.arr 1 x.rows x.v)
abbrev cs3 (H : Heap) : List AVal := cellsO (H.getD 3 (.var []))
def SpH.dec (H : Heap) : SpH := ⟨H.getD 0 (.var []), H.getD 1 (.var []), H.getD 2 (.var []), strOf ((cs3 H).getD 0 .undef), (cs3 H).getD 1 .undef, (cs3 H).getD 2 .undef, (cs3 H).getD 3 .undef, intOf ((cs3 H).getD 4 .undef), boolOf ((cs3 H).getD 5 .undef), H.getD 5 (.var []), rowsO (H.getD 7 (.var [])), verO (H.getD 7 (.var []))⟩
/-- a builder as it may lie -/
def CanB (ad b : AVal) (rows : List (List AVal)) (v : Nat) : Prop := (ad = .nilptr ∨ ad = .ptr (.hp 3) 2) ∧ rows = (bytesOf rows).map byteRow ∧ b = bfB 7 (bytesOf rows) v
abbrev Can (x : SpH) : Prop := CanB x.ad x.b x.rows x.v
def wsV (text l : List UInt8) (v : Nat) : Nat := bif text == [] then (bif l == [] then v else v + 2) else v + 1
def wsM (x : SpH) (l : List UInt8) : SpH := { x with ad := .ptr (.hp 3) 2, b := bfB 7 ((bytesOf x.rows) ++ l) (wsV (bytesOf x.rows) l x.v), rows := x.rows ++ l.map byteRow, v := wsV (bytesOf x.rows) l x.v }
theorem wsM_t (x : SpH) (l : List UInt8) : bytesOf (wsM x l).rows = (bytesOf x.rows) ++ l := by
  show bytesOf (x.rows ++ l.map byteRow) = _
  have := bytesOf_map l
  unfold bytesOf at this
  show (x.rows ++ l.map byteRow).map byteOf = x.rows.map byteOf ++ l
  rw [List.map_append, this]
theorem wsM_can {x : SpH} (h : Can x) (l : List UInt8) : Can (wsM x l) := by
  refine ⟨.inr rfl, ?_, ?_⟩
  · rw [wsM_t, List.map_append, ← h.2.1]; rfl
  · rw [wsM_t]; rfl
theorem layW0_ok : layW0.OK Tryd.prog := Lay.nil_ok.addN (by kernel_rfl)
theorem e_map (l : List UInt8) : List.map (fun c : UInt8 => [AVal.int IntKind.u8 (c.toNat : Int)]) l = l.map byteRow := rfl
theorem ws_ok (x : SpH) (l : List UInt8) (hx : Can x) (h : (bytesOf x.rows).length + l.length ≤ 1099511627776) : CallOK Tryd.prog 52 [.ptr (.hp 3) 2, .str l] x.heap (.ret (.tuple [.int .i64 l.length, .nilIface]) (wsM x l).heap) := by
  obtain ⟨U0, U1, U2, s, o, ad, b, a, tr, O, rows, v⟩ := x
  obtain ⟨h1, h2, h3⟩ := hx
  unfold wsM
  simp only at h h1 h2 h3 ⊢
  generalize bytesOf rows = text at *
  subst h2 h3
  cases text with
  | nil =>
    cases l with
    | nil =>
      refine layW0_ok.call (fun k => ?_)
      rcases h1 with rfl | rfl
      · exact ws_fun0 U0 U1 U2 O s o a tr (.arr 1 [] v) k
      · exact ws_fun1 U0 U1 U2 O s o a tr (.arr 1 [] v) k
    | cons c t =>
      refine relAt_ok (i := 3) (c := 3) (j := 7) ?_
      simp only [List.length_nil] at h
      refine Lay.nil_ok.call (fun k => ?_)
      have e3 : wsV [] (c :: t) v = v + 1 + 1 := rfl
      rw [e3]
      generalize hl : c :: t = l at *
      have e4 : bfB 7 ([] ++ l) (v + 1 + 1) = .own 7 0 l.length (v + 1 + 1) false := by rw [← hl]; rfl
      rw [e4]
      rcases h1 with rfl | rfl
      · rw [show relAt 3 3 7 (SpH.mk U0 U1 U2 s o .nilptr (bfB 7 [] v) a tr O (([] : List UInt8).map byteRow) v).heap = HsP U0 U1 U2 s o .nilptr (.own 7 0 0 (v + 1) false) a tr O (.arr 1 [] (v + 1)) from rfl, ws_fun2]
        simp (disch := omega) only [e_map, List.length_map, dT, beq_self_eq_true, Bool.and_true, cond_true, List.append_eq, List.nil_append, Nat.zero_add, List.length_nil, Nat.mul_one, List.map_nil]
      · rw [show relAt 3 3 7 (SpH.mk U0 U1 U2 s o (.ptr (.hp 3) 2) (bfB 7 [] v) a tr O (([] : List UInt8).map byteRow) v).heap = HsP U0 U1 U2 s o (.ptr (.hp 3) 2) (.own 7 0 0 (v + 1) false) a tr O (.arr 1 [] (v + 1)) from rfl, ws_fun3]
        simp (disch := omega) only [e_map, List.length_map, dT, beq_self_eq_true, Bool.and_true, cond_true, List.append_eq, List.nil_append, Nat.zero_add, List.length_nil, Nat.mul_one, List.map_nil]
  | cons c t =>
    refine Lay.nil_ok.call (fun k => ?_)
    have e3 : wsV (c :: t) l v = v + 1 := rfl
    have e4 : bfB 7 ((c :: t) ++ l) (v + 1) = .own 7 0 ((c :: t) ++ l).length (v + 1) false := rfl
    have e5 : bfB 7 (c :: t) v = .own 7 0 (c :: t).length v false := rfl
    rw [e3, e4, e5]
    generalize c :: t = m at *
    rcases h1 with rfl | rfl
    · rw [ws_fun2]
      simp (disch := omega) only [e_map, List.length_map, dT, beq_self_eq_true, Bool.and_true, cond_true, List.append_eq, List.length_append, Nat.mul_one]
    · rw [ws_fun3]
      simp (disch := omega) only [e_map, List.length_map, dT, beq_self_eq_true, Bool.and_true, cond_true, List.append_eq, List.length_append, Nat.mul_one]
noncomputable def wsTold : FSp := mkF (fun xs H => (SpH.dec H, aS xs 1)) (fun x => Can x.1 ∧ (bytesOf x.1.rows).length + x.2.length ≤ 1099511627776) (fun x => [.ptr (.hp 3) 2, .str x.2]) (fun x => x.1.heap)
  (fun x k => k (.ret (.tuple [.int .i64 x.2.length, .nilIface]) (wsM x.1 x.2).heap))
theorem wsTold_ok : ∀ xs H k out, wsTold xs H k = some out → ∃ o, CallOK Tryd.prog 52 xs H o ∧ k o = some out :=
  mkF_ok fun x h => ⟨_, fun k => rfl, ws_ok x.1 x.2 h.1 h.2⟩
/- Len -/
theorem len_fun0 (U0 U1 U2 O : Obj) (s : List UInt8) (o ad : AVal) (a : Int) (tr : Bool) (B : Obj) (k : Out → Ans) : iFun Tryd.prog (Lay.nil.hd Tryd.prog) Lay.nil.fhs 0 51 [.ptr (.hp 3) 2] (HsP U0 U1 U2 s o ad .nilX a tr O B) k = (
  k (Out.ret (AVal.int IntKind.i64 0) (HsP U0 U1 U2 s o ad AVal.nilX a tr O B))) := by kernel_rfl
theorem len_fun1 (U0 U1 U2 O : Obj) (s : List UInt8) (o ad : AVal) (a : Int) (tr : Bool) (n v : Nat) (B : Obj) (k : Out → Ans) : iFun Tryd.prog (Lay.nil.hd Tryd.prog) Lay.nil.fhs 0 51 [.ptr (.hp 3) 2] (HsP U0 U1 U2 s o ad (.own 7 0 n v false) a tr O B) k = (
  k (Out.ret (AVal.int IntKind.i64 (↑n : Int)) (HsP U0 U1 U2 s o ad (AVal.own 7 0 n v false) a tr O B))) := by kernel_rfl
theorem len_ok (x : SpH) (hx : Can x) : CallOK Tryd.prog 51 [.ptr (.hp 3) 2] x.heap (.ret (.int .i64 (bytesOf x.rows).length) x.heap) := by
  obtain ⟨U0, U1, U2, s, o, ad, b, a, tr, O, rows, v⟩ := x
  obtain ⟨h1, h2, h3⟩ := hx
  simp only at h1 h2 h3 ⊢
  generalize bytesOf rows = text at *
  subst h2 h3
  refine Lay.nil_ok.call (fun k => ?_)
  cases text with
  | nil => exact len_fun0 U0 U1 U2 O s o ad a tr _ k
  | cons c t => exact len_fun1 U0 U1 U2 O s o ad a tr (c :: t).length v _ k
noncomputable def lenTold : FSp := mkF (fun xs H => SpH.dec H) (fun x => Can x) (fun x => [.ptr (.hp 3) 2]) (fun x => x.heap) (fun x k => k (.ret (.int .i64 (bytesOf x.rows).length) x.heap))
theorem lenTold_ok : ∀ xs H k out, lenTold xs H k = some out → ∃ o, CallOK Tryd.prog 51 xs H o ∧ k o = some out :=
  mkF_ok fun x h => ⟨_, fun k => rfl, len_ok x h⟩
/- String -/
abbrev SpH.killed (x : SpH) : SpH := { x with rows := [], v := bif (bytesOf x.rows) == [] then x.v else x.v + 1 }
theorem stg_ok (x : SpH) (hx : Can x) (h : (bytesOf x.rows).length ≤ 1099511627776) : CallOK Tryd.prog 59 [.ptr (.hp 3) 2] x.heap (.ret (.str (bytesOf x.rows)) x.killed.heap) := by
  obtain ⟨U0, U1, U2, s, o, ad, b, a, tr, O, rows, v⟩ := x
  obtain ⟨h1, h2, h3⟩ := hx
  simp only at h h1 h2 h3 ⊢
  generalize bytesOf rows = text at *
  subst h2 h3
  cases text with
  | nil => exact str_ok0 (cs := [.str s, o, ad, .nilX, .int .i64 a, .bool tr]) rfl rfl
  | cons c t => exact str_ok (i := 3) (off := 2) (j := 7) (u := v) (cs := [.str s, o, ad, .own 7 0 (c :: t).length v false, .int .i64 a, .bool tr]) (l := c :: t) rfl rfl rfl rfl (by simp) h
noncomputable def stgTold : FSp := mkF (fun xs H => SpH.dec H) (fun x => Can x ∧ (bytesOf x.rows).length ≤ 1099511627776) (fun x => [.ptr (.hp 3) 2]) (fun x => x.heap) (fun x k => k (.ret (.str (bytesOf x.rows)) x.killed.heap))
theorem stgTold_ok : ∀ xs H k out, stgTold xs H k = some out → ∃ o, CallOK Tryd.prog 59 xs H o ∧ k o = some out :=
  mkF_ok fun x h => ⟨_, fun k => rfl, stg_ok x h.1 h.2⟩
noncomputable def layX4 : Lay := (((layX3.addF 52 wsTold).addF 51 lenTold).addF 59 stgTold).addL 60 { exact := true }
theorem layX4_ok : layX4.OK Tryd.prog := (((layX3_ok.addF wsTold_ok).addF lenTold_ok).addF stgTold_ok).addN (by kernel_rfl)
theorem put_fun (U0 U1 U2 O : Obj) (s : List UInt8) (o ad b : AVal) (a : Int) (tr : Bool) (rows : List (List AVal)) (v : Nat) (f t : Int) (k : Out → Ans) : iFun Tryd.prog (layX4.hd Tryd.prog) layX4.fhs 0 27 [.ptr (.hp 3) 0, .int .i64 f, .int .i64 t] (HsP U0 U1 U2 s o ad b a tr O (.arr 1 rows v)) k = (
  let l0 : List UInt8 := List.drop f.toNat (List.take t.toNat s);
  let m1 : Nat := l0.length;
  let l2 : List UInt8 := trimL l0;
  let c3 : Bool := l2 == [];
  let c4 : Bool := !c3;
  let c5 : Bool := bif c3 then tr else false;
  let c6 : Bool := (↑(bytesOf rows).length : Int) == 0;
  let m7 : Nat := l2.length;
  let n8 : Int := IntKind.i64.wrap (f + IntKind.i64.wrap ((↑m1 : Int) - (↑m7 : Int)));
  let m9 : Nat := wsV (bytesOf rows) l2 v;
  let c10 : Bool := !l0 == [];
  let m11 : Nat := wsV (bytesOf rows) l0 v;
  bif decide (0 ≤ f) && decide (f ≤ t) && decide (t ≤ (↑s.length : Int)) then
    bif tr then
      bif decide (m1 ≤ 1099511627776) then
        bif c4 then
          bif
              tst
                (Can (SpH.mk U0 U1 U2 s o ad b a c5 O rows v) ∧
                  SubL [AVal.ptr (Oid.hp 3) 2] [AVal.ptr (Oid.hp 3) 2] ∧
                    [U0, U1, U2, Obj.var [AVal.str s, o, ad, b, AVal.int IntKind.i64 a, AVal.bool c5], Obj.note 64 6, O,
                        Obj.note 30 0, Obj.arr 1 rows v, Obj.note 5 0] =
                      (SpH.mk U0 U1 U2 s o ad b a c5 O rows v).heap) then
            bif bif c4 then c6 else false then
              bif
                  tst
                    ((Can (SpH.mk U0 U1 U2 s o ad b n8 c5 O rows v) ∧ (bytesOf rows).length + m7 ≤ 1099511627776) ∧
                      SubL [AVal.ptr (Oid.hp 3) 2, AVal.str l2] [AVal.ptr (Oid.hp 3) 2, AVal.str l2] ∧
                        [U0, U1, U2, Obj.var [AVal.str s, o, ad, b, AVal.int IntKind.i64 n8, AVal.bool c5], Obj.note 64 6,
                            O, Obj.note 30 0, Obj.arr 1 rows v, Obj.note 5 0] =
                          (SpH.mk U0 U1 U2 s o ad b n8 c5 O rows v).heap) then
                k
                  (Out.ret (AVal.tuple [])
                    (SpH.mk U0 U1 U2 s o (AVal.ptr (Oid.hp 3) 2) (bfB 7 ((bytesOf rows).append l2) m9) n8 c5 O
                        (rows.append (List.map (fun (c : UInt8) => [AVal.int IntKind.u8 (↑c.toNat : Int)]) l2)) m9).heap)
              else none
            else
              bif
                  tst
                    ((Can (SpH.mk U0 U1 U2 s o ad b a c5 O rows v) ∧ (bytesOf rows).length + m7 ≤ 1099511627776) ∧
                      SubL [AVal.ptr (Oid.hp 3) 2, AVal.str l2] [AVal.ptr (Oid.hp 3) 2, AVal.str l2] ∧
                        (SpH.mk U0 U1 U2 s o ad b a c5 O rows v).heap =
                          (SpH.mk U0 U1 U2 s o ad b a c5 O rows v).heap) then
                k
                  (Out.ret (AVal.tuple [])
                    (SpH.mk U0 U1 U2 s o (AVal.ptr (Oid.hp 3) 2) (bfB 7 ((bytesOf rows).append l2) m9) a c5 O
                        (rows.append (List.map (fun (c : UInt8) => [AVal.int IntKind.u8 (↑c.toNat : Int)]) l2)) m9).heap)
              else none
          else none
        else
          bif c4 then none
          else
            bif c4 then none
            else
              bif
                  tst
                    ((Can (SpH.mk U0 U1 U2 s o ad b a c5 O rows v) ∧ (bytesOf rows).length + m7 ≤ 1099511627776) ∧
                      SubL [AVal.ptr (Oid.hp 3) 2, AVal.str l2] [AVal.ptr (Oid.hp 3) 2, AVal.str l2] ∧
                        [U0, U1, U2, Obj.var [AVal.str s, o, ad, b, AVal.int IntKind.i64 a, AVal.bool c5], Obj.note 64 6,
                            O, Obj.note 30 0, Obj.arr 1 rows v, Obj.note 5 0] =
                          (SpH.mk U0 U1 U2 s o ad b a c5 O rows v).heap) then
                k
                  (Out.ret (AVal.tuple [])
                    (SpH.mk U0 U1 U2 s o (AVal.ptr (Oid.hp 3) 2) (bfB 7 ((bytesOf rows).append l2) m9) a c5 O
                        (rows.append (List.map (fun (c : UInt8) => [AVal.int IntKind.u8 (↑c.toNat : Int)]) l2)) m9).heap)
              else none
      else none
    else
      bif c10 then
        bif
            tst
              (Can (SpH.mk U0 U1 U2 s o ad b a tr O rows v) ∧
                SubL [AVal.ptr (Oid.hp 3) 2] [AVal.ptr (Oid.hp 3) 2] ∧
                  HsP U0 U1 U2 s o ad b a tr O (Obj.arr 1 rows v) = (SpH.mk U0 U1 U2 s o ad b a tr O rows v).heap) then
          bif bif c10 then c6 else false then
            bif
                tst
                  ((Can (SpH.mk U0 U1 U2 s o ad b f tr O rows v) ∧ (bytesOf rows).length + m1 ≤ 1099511627776) ∧
                    SubL [AVal.ptr (Oid.hp 3) 2, AVal.str l0] [AVal.ptr (Oid.hp 3) 2, AVal.str l0] ∧
                      [U0, U1, U2, Obj.var [AVal.str s, o, ad, b, AVal.int IntKind.i64 f, AVal.bool tr], Obj.note 64 6, O,
                          Obj.note 30 0, Obj.arr 1 rows v, Obj.note 5 0] =
                        (SpH.mk U0 U1 U2 s o ad b f tr O rows v).heap) then
              k
                (Out.ret (AVal.tuple [])
                  (SpH.mk U0 U1 U2 s o (AVal.ptr (Oid.hp 3) 2) (bfB 7 ((bytesOf rows).append l0) m11) f tr O
                      (rows.append (List.map (fun (c : UInt8) => [AVal.int IntKind.u8 (↑c.toNat : Int)]) l0)) m11).heap)
            else none
          else
            bif
                tst
                  ((Can (SpH.mk U0 U1 U2 s o ad b a tr O rows v) ∧ (bytesOf rows).length + m1 ≤ 1099511627776) ∧
                    SubL [AVal.ptr (Oid.hp 3) 2, AVal.str l0] [AVal.ptr (Oid.hp 3) 2, AVal.str l0] ∧
                      (SpH.mk U0 U1 U2 s o ad b a tr O rows v).heap = (SpH.mk U0 U1 U2 s o ad b a tr O rows v).heap) then
              k
                (Out.ret (AVal.tuple [])
                  (SpH.mk U0 U1 U2 s o (AVal.ptr (Oid.hp 3) 2) (bfB 7 ((bytesOf rows).append l0) m11) a tr O
                      (rows.append (List.map (fun (c : UInt8) => [AVal.int IntKind.u8 (↑c.toNat : Int)]) l0)) m11).heap)
            else none
        else none
      else
        bif c10 then none
        else
          bif c10 then none
          else
            bif
                tst
                  ((Can (SpH.mk U0 U1 U2 s o ad b a tr O rows v) ∧ (bytesOf rows).length + m1 ≤ 1099511627776) ∧
                    SubL [AVal.ptr (Oid.hp 3) 2, AVal.str l0] [AVal.ptr (Oid.hp 3) 2, AVal.str l0] ∧
                      HsP U0 U1 U2 s o ad b a tr O (Obj.arr 1 rows v) =
                        (SpH.mk U0 U1 U2 s o ad b a tr O rows v).heap) then
              k
                (Out.ret (AVal.tuple [])
                  (SpH.mk U0 U1 U2 s o (AVal.ptr (Oid.hp 3) 2) (bfB 7 ((bytesOf rows).append l0) m11) a tr O
                      (rows.append (List.map (fun (c : UInt8) => [AVal.int IntKind.u8 (↑c.toNat : Int)]) l0)) m11).heap)
            else none
  else none) := by kernel_rfl
theorem flush_fun (U0 U1 U2 : Obj) (s : List UInt8) (ad b : AVal) (a : Int) (tr : Bool) (m u : Nat) (orows rows : List (List AVal)) (v : Nat) (k : Out → Ans) : iFun Tryd.prog (layX4.hd Tryd.prog) layX4.fhs 0 29 [.ptr (.hp 3) 0] (HsP U0 U1 U2 s (.own 5 0 m u false) ad b a tr (.arr 3 orows u) (.arr 1 rows v)) k = (
  let m0 : Nat := m + 1;
  let m1 : Nat := u + 1;
  bif
      tst
        (Can (SpH.mk U0 U1 U2 s (AVal.own 5 0 m u false) ad b a tr (Obj.arr 3 orows u) rows v) ∧
          SubL [AVal.ptr (Oid.hp 3) 2] [AVal.ptr (Oid.hp 3) 2] ∧
            HsP U0 U1 U2 s (AVal.own 5 0 m u false) ad b a tr (Obj.arr 3 orows u) (Obj.arr 1 rows v) =
              (SpH.mk U0 U1 U2 s (AVal.own 5 0 m u false) ad b a tr (Obj.arr 3 orows u) rows v).heap) then
    bif decide ((↑(bytesOf rows).length : Int) > 0) then
      bif
          tst
            ((Can (SpH.mk U0 U1 U2 s (AVal.own 5 0 m u false) ad b a tr (Obj.arr 3 orows u) rows v) ∧
                (bytesOf rows).length ≤ 1099511627776) ∧
              SubL [AVal.ptr (Oid.hp 3) 2] [AVal.ptr (Oid.hp 3) 2] ∧
                (SpH.mk U0 U1 U2 s (AVal.own 5 0 m u false) ad b a tr (Obj.arr 3 orows u) rows v).heap =
                  (SpH.mk U0 U1 U2 s (AVal.own 5 0 m u false) ad b a tr (Obj.arr 3 orows u) rows v).heap) then
        bif u == u && m == orows.length && decide ((2 * m0 + 1000) * 32 ≤ 281474976710656) && true then
          bif
              sameV (AVal.int IntKind.i64 a) (AVal.int IntKind.i64 a) && true && true &&
                (sameV (AVal.own 5 0 m u false) (AVal.own 5 0 m u false) && true && true && true) then
            k
              (Out.ret (AVal.tuple [])
                [U0, U1, U2,
                  Obj.var
                    [AVal.str s, AVal.own 5 0 m0 m1 false, AVal.nilptr, AVal.nilX, AVal.int IntKind.i64 a, AVal.bool tr],
                  Obj.note 64 6,
                  Obj.arr 3 (orows.append [[AVal.int IntKind.i64 1, AVal.str (bytesOf rows), AVal.int IntKind.i64 a]]) m1,
                  Obj.note 30 0, Obj.arr 1 [] (bif bytesOf rows == [] then v else v + 1), Obj.note 5 0])
          else none
        else none
      else none
    else
      k
        (Out.ret (AVal.tuple [])
          [U0, U1, U2,
            Obj.var [AVal.str s, AVal.own 5 0 m u false, AVal.nilptr, AVal.nilX, AVal.int IntKind.i64 a, AVal.bool tr],
            Obj.note 64 6, Obj.arr 3 orows u, Obj.note 30 0, Obj.arr 1 rows v, Obj.note 5 0])
  else none) := by kernel_rfl
theorem cut_fun (U0 U1 U2 O : Obj) (s : List UInt8) (o ad b : AVal) (a : Int) (tr : Bool) (rows : List (List AVal)) (v : Nat) (k : Out → Ans) : iFun Tryd.prog (layX4.hd Tryd.prog) layX4.fhs 0 57 [.ptr (.hp 3) 0] (HsP U0 U1 U2 s o ad b a tr O (.arr 1 rows v)) k = (
  let m0 : Nat := bif bytesOf rows == [] then v else v + 1;
  let m1 : Nat := wsV (bytesOf []) (trimR (bytesOf rows)) m0;
  bif
      tst
        ((Can (SpH.mk U0 U1 U2 s o ad b a tr O rows v) ∧ (bytesOf rows).length ≤ 1099511627776) ∧
          SubL [AVal.ptr (Oid.hp 3) 2] [AVal.ptr (Oid.hp 3) 2] ∧
            HsP U0 U1 U2 s o ad b a tr O (Obj.arr 1 rows v) = (SpH.mk U0 U1 U2 s o ad b a tr O rows v).heap) then
    bif decide ((bytesOf rows).length ≤ 1099511627776) then
      bif
          tst
            ((Can (SpH.mk U0 U1 U2 s o AVal.nilptr AVal.nilX a tr O [] m0) ∧
                0 + (trimR (bytesOf rows)).length ≤ 1099511627776) ∧
              SubL [AVal.ptr (Oid.hp 3) 2, AVal.str (trimR (bytesOf rows))]
                  [AVal.ptr (Oid.hp 3) 2, AVal.str (trimR (bytesOf rows))] ∧
                [U0, U1, U2, Obj.var [AVal.str s, o, AVal.nilptr, AVal.nilX, AVal.int IntKind.i64 a, AVal.bool tr],
                    Obj.note 64 6, O, Obj.note 30 0, Obj.arr 1 [] m0, Obj.note 5 0] =
                  (SpH.mk U0 U1 U2 s o AVal.nilptr AVal.nilX a tr O [] m0).heap) then
        k
          (Out.ret (AVal.tuple [])
            (SpH.mk U0 U1 U2 s o (AVal.ptr (Oid.hp 3) 2) (bfB 7 (trimR (bytesOf rows)) m1) a tr O
                (List.map (fun (c : UInt8) => [AVal.int IntKind.u8 (↑c.toNat : Int)]) (trimR (bytesOf rows))) m1).heap)
      else none
    else none
  else none) := by kernel_rfl
def putL (s : List UInt8) (tr : Bool) (f t : Nat) : List UInt8 := bif tr then trimL ((s.take t).drop f) else (s.take t).drop f
def putM (x : SpH) (f t : Nat) : SpH :=
  wsM { x with a := bif !(putL x.s x.tr f t == []) && bytesOf x.rows == [] then (f : Int) + (((x.s.take t).drop f).length - (putL x.s x.tr f t).length) else x.a, tr := x.tr && putL x.s x.tr f t == [] } (putL x.s x.tr f t)
theorem putL_len (s : List UInt8) (tr : Bool) (f t : Nat) : (putL s tr f t).length ≤ ((s.take t).drop f).length := by
  unfold putL
  cases tr
  · exact Nat.le_refl _
  · exact trimL_len _
theorem len0 (text : List UInt8) : ((text.length : Int) == 0) = (text == []) := by
  cases text with
  | nil => rfl
  | cons c t => rw [Bool.eq_iff_iff]; simp; omega
theorem put_call (x : SpH) {f t : Nat} (hx : Can x) (h1 : f ≤ t) (h2 : t ≤ x.s.length) (hs : x.s.length ≤ 1073741824) (hp : (bytesOf x.rows).length ≤ 1073741824) (k : Out → Ans) :
    iFun Tryd.prog (layX4.hd Tryd.prog) layX4.fhs 0 27 [.ptr (.hp 3) 0, .int .i64 f, .int .i64 t] x.heap k = k (.ret (.tuple []) (putM x f t).heap) := by
  obtain ⟨U0, U1, U2, s, o, ad, b, a, tr, O, rows, v⟩ := x
  have key : iFun Tryd.prog (layX4.hd Tryd.prog) layX4.fhs 0 27 [.ptr (.hp 3) 0, .int .i64 f, .int .i64 t] (SpH.mk U0 U1 U2 s o ad b a tr O rows v).heap k = _ := put_fun U0 U1 U2 O s o ad b a tr rows v f t k
  rw [key]
  clear key
  simp only at hx hp hs h2
  have hd : ((s.take t).drop f).length ≤ s.length := by simp; omega
  unfold putM
  have h8 := trimL_len ((s.take t).drop f)
  simp (disch := first | trivial | omega | (apply And.intro <;> first | assumption | omega)) only [Can, e_map, SpH.heap, HsP, Int.toNat_natCast, bif_and, dT, cond_true, Bool.and_true, tstP, wrap_of, len0, List.append_eq]
  cases tr
  · have e : putL s false f t = (s.take t).drop f := rfl
    rw [e]
    simp only [cond_false, Bool.false_and, Int.sub_self, Int.add_zero]
    generalize (s.take t).drop f = l
    cases l == [] <;> cases bytesOf rows == [] <;> rfl
  · have e : putL s true f t = trimL ((s.take t).drop f) := rfl
    rw [e]
    simp only [cond_true, Bool.true_and, Bool.and_true]
    generalize trimL ((s.take t).drop f) = l2
    generalize ((s.take t).drop f).length = n
    cases l2 == [] <;> cases bytesOf rows == [] <;> rfl
def cutM (x : SpH) : SpH := wsM { x with ad := .nilptr, b := .nilX, rows := [], v := bif bytesOf x.rows == [] then x.v else x.v + 1 } (trimR (bytesOf x.rows))
theorem can_nil (v : Nat) : CanB .nilptr .nilX [] v := ⟨.inl rfl, rfl, rfl⟩
theorem cut_call (x : SpH) (hx : Can x) (hp : (bytesOf x.rows).length ≤ 1073741824) (k : Out → Ans) :
    iFun Tryd.prog (layX4.hd Tryd.prog) layX4.fhs 0 57 [.ptr (.hp 3) 0] x.heap k = k (.ret (.tuple []) (cutM x).heap) := by
  obtain ⟨U0, U1, U2, s, o, ad, b, a, tr, O, rows, v⟩ := x
  have key : iFun Tryd.prog (layX4.hd Tryd.prog) layX4.fhs 0 57 [.ptr (.hp 3) 0] (SpH.mk U0 U1 U2 s o ad b a tr O rows v).heap k = _ := cut_fun U0 U1 U2 O s o ad b a tr rows v k
  rw [key]
  clear key
  simp only at hp hx
  have h8 := trimR_len (bytesOf rows)
  have h9 : ∀ v, CanB .nilptr .nilX [] v := can_nil
  have h10 : (bytesOf []).length = 0 := rfl
  simp (disch := first | trivial | omega | (apply And.intro <;> first | assumption | omega) | (apply And.intro <;> first | exact can_nil _ | omega)) only [Can, e_map, SpH.heap, HsP, cond_true, tstP, dT]
  rfl
def flN (x : SpH) : Bool := bytesOf x.rows == []
def flushM (x : SpH) : SpH :=
  { x with o := .own 5 0 (bif flN x then (rowsO x.O).length else (rowsO x.O).length + 1) (bif flN x then verO x.O else verO x.O + 1) false, ad := .nilptr, b := .nilX, rows := [], v := (bif flN x then x.v else x.v + 1),
           O := .arr 3 (bif flN x then rowsO x.O else rowsO x.O ++ [[.int .i64 1, .str (bytesOf x.rows), .int .i64 x.a]]) (bif flN x then verO x.O else verO x.O + 1) }
/-- the pieces, as they may lie -/
def CanO (o : AVal) (O : Obj) : Prop := o = .own 5 0 (rowsO O).length (verO O) false ∧ O = .arr 3 (rowsO O) (verO O)
theorem flush_call (x : SpH) (hx : Can x) (ho : CanO x.o x.O) (hp : (bytesOf x.rows).length ≤ 1073741824) (hn : (rowsO x.O).length ≤ 1073741824) (k : Out → Ans) :
    iFun Tryd.prog (layX4.hd Tryd.prog) layX4.fhs 0 29 [.ptr (.hp 3) 0] x.heap k = k (.ret (.tuple []) (flushM x).heap) := by
  obtain ⟨U0, U1, U2, s, o, ad, b, a, tr, O, rows, v⟩ := x
  obtain ⟨h1, h2⟩ := ho
  simp only at hp hx hn h1 h2
  have hv : CanB ad b rows v := hx
  generalize hro : rowsO O = orows at *
  generalize hve : verO O = u at *
  subst h1 h2
  have key : iFun Tryd.prog (layX4.hd Tryd.prog) layX4.fhs 0 29 [.ptr (.hp 3) 0] (SpH.mk U0 U1 U2 s (.own 5 0 orows.length u false) ad b a tr (.arr 3 orows u) rows v).heap k = _ := flush_fun U0 U1 U2 s ad b a tr orows.length u orows rows v k
  rw [key]
  clear key
  unfold flushM flN
  simp only [rowsO, verO]
  simp (disch := first | trivial | omega | (apply And.intro <;> first | assumption | omega)) only [Can, e_map, SpH.heap, HsP, cond_true, tstP, dT, beq_self_eq_true, Bool.and_true, sameV_refl, List.append_eq]
  obtain ⟨_, h4, _⟩ := hx
  generalize bytesOf rows = text at *
  cases text with
  | nil => subst h4; rfl
  | cons c t =>
    rw [dT (show ((c :: t).length : Int) > 0 by simp only [List.length_cons]; omega)]
    rfl
/- told -/
noncomputable def putTold : FSp := mkF (fun xs H => (SpH.dec H, (aI xs 1).toNat, (aI xs 2).toNat)) (fun x => Can x.1 ∧ x.2.1 ≤ x.2.2 ∧ x.2.2 ≤ x.1.s.length ∧ x.1.s.length ≤ 1073741824 ∧ (bytesOf x.1.rows).length ≤ 1073741824) (fun x => [.ptr (.hp 3) 0, .int .i64 x.2.1, .int .i64 x.2.2]) (fun x => x.1.heap)
  (fun x k => k (.ret (.tuple []) (putM x.1 x.2.1 x.2.2).heap))
theorem putTold_ok : ∀ xs H k out, putTold xs H k = some out → ∃ o, CallOK Tryd.prog 27 xs H o ∧ k o = some out :=
  mkF_ok fun x h => ⟨_, fun k => rfl, layX4_ok.call (put_call x.1 h.1 h.2.1 h.2.2.1 h.2.2.2.1 h.2.2.2.2)⟩
noncomputable def cutTold : FSp := mkF (fun xs H => SpH.dec H) (fun x => Can x ∧ (bytesOf x.rows).length ≤ 1073741824) (fun x => [.ptr (.hp 3) 0]) (fun x => x.heap) (fun x k => k (.ret (.tuple []) (cutM x).heap))
theorem cutTold_ok : ∀ xs H k out, cutTold xs H k = some out → ∃ o, CallOK Tryd.prog 57 xs H o ∧ k o = some out :=
  mkF_ok fun x h => ⟨_, fun k => rfl, layX4_ok.call (cut_call x h.1 h.2)⟩
noncomputable def flushTold : FSp := mkF (fun xs H => SpH.dec H) (fun x => Can x ∧ CanO x.o x.O ∧ (bytesOf x.rows).length ≤ 1073741824 ∧ (rowsO x.O).length ≤ 1073741824) (fun x => [.ptr (.hp 3) 0]) (fun x => x.heap) (fun x k => k (.ret (.tuple []) (flushM x).heap))
theorem flushTold_ok : ∀ xs H k out, flushTold xs H k = some out → ∃ o, CallOK Tryd.prog 29 xs H o ∧ k o = some out :=
  mkF_ok fun x h => ⟨_, fun k => rfl, layX4_ok.call (flush_call x h.1 h.2.1 h.2.2.1 h.2.2.2)⟩
noncomputable def layX5 : Lay := ((layX3.addF 27 putTold).addF 57 cutTold).addF 29 flushTold
theorem layX5_ok : layX5.OK Tryd.prog := ((layX3_ok.addF putTold_ok).addF cutTold_ok).addF flushTold_ok
theorem action_fun (U0 U1 U2 : Obj) (s : List UInt8) (ad b : AVal) (a : Int) (tr : Bool) (m u : Nat) (orows rows : List (List AVal)) (v : Nat) (at_ : Int) (k : Out → Ans) (n0 : Int) (e_n0 : n0 = (at_ + 2))
  (n1 : Int) (e_n1 : n1 = ((↑s.length : Int)))
  (n2 : Int) (e_n2 : n2 = ((↑(rmF s at_.toNat) : Int) + rmN s at_.toNat + 2))
  (m3 : Nat) (e_m3 : m3 = (n2.toNat))
  (n4 : Int) (e_n4 : n4 = (win (List.drop m3 s) false false m3))
  (n5 : Int) (e_n5 : n5 = (IntKind.i64.wrap n0))
  (c6 : Bool) (e_c6 : c6 = (decide (0 ≤ n5)))
  (m7 : Nat) (e_m7 : m7 = (n5.toNat))
  (l8 : List UInt8) (e_l8 : l8 = (List.drop m7 (List.take n4.toNat s)))
  (c9 : Bool) (e_c9 : c9 = (tst
    ((Can (SpH.mk U0 U1 U2 s (AVal.own 5 0 m u false) ad b a tr (Obj.arr 3 orows u) rows v) ∧
        (bytesOf rows).length ≤ 1073741824) ∧
      SubL [AVal.ptr (Oid.hp 3) 0] [AVal.ptr (Oid.hp 3) 0] ∧
        HsP U0 U1 U2 s (AVal.own 5 0 m u false) ad b a tr (Obj.arr 3 orows u) (Obj.arr 1 rows v) =
          (SpH.mk U0 U1 U2 s (AVal.own 5 0 m u false) ad b a tr (Obj.arr 3 orows u) rows v).heap)))
  (c10 : Bool) (e_c10 : c10 = (decide (n2 < 0)))
  (m11 : Nat) (e_m11 : m11 = (v + 1))
  (m12 : Nat) (e_m12 : m12 = (wsV (bytesOf []) (trimR (bytesOf rows)) (bif bytesOf rows == [] then v else m11)))
  (l13 : List UInt8) (e_l13 : l13 = (bytesOf (List.map (fun (c : UInt8) => [AVal.int IntKind.u8 (↑c.toNat : Int)]) (trimR (bytesOf rows)))))
  (c14 : Bool) (e_c14 : c14 = (tst
    ((Can
          (SpH.mk U0 U1 U2 s (AVal.own 5 0 m u false) (AVal.ptr (Oid.hp 3) 2) (bfB 7 (trimR (bytesOf rows)) m12) a tr
            (Obj.arr 3 orows u)
            (List.map (fun (c : UInt8) => [AVal.int IntKind.u8 (↑c.toNat : Int)]) (trimR (bytesOf rows))) m12) ∧
        CanO (AVal.own 5 0 m u false) (Obj.arr 3 orows u) ∧ l13.length ≤ 1073741824 ∧ orows.length ≤ 1073741824) ∧
      SubL [AVal.ptr (Oid.hp 3) 0] [AVal.ptr (Oid.hp 3) 0] ∧
        (SpH.mk U0 U1 U2 s (AVal.own 5 0 m u false) (AVal.ptr (Oid.hp 3) 2) (bfB 7 (trimR (bytesOf rows)) m12) a tr
              (Obj.arr 3 orows u)
              (List.map (fun (c : UInt8) => [AVal.int IntKind.u8 (↑c.toNat : Int)]) (trimR (bytesOf rows))) m12).heap =
          (SpH.mk U0 U1 U2 s (AVal.own 5 0 m u false) (AVal.ptr (Oid.hp 3) 2) (bfB 7 (trimR (bytesOf rows)) m12) a tr
              (Obj.arr 3 orows u)
              (List.map (fun (c : UInt8) => [AVal.int IntKind.u8 (↑c.toNat : Int)]) (trimR (bytesOf rows))) m12).heap)))
  (l15 : List UInt8) (e_l15 : l15 = (trimsT l8))
  (l16 : List UInt8) (e_l16 : l16 = (trimsU l15))
  (c17 : Bool) (e_c17 : c17 = (decide (l16.length ≤ 1099511627776)))
  (c18 : Bool) (e_c18 : c18 = (flN
    (SpH.mk U0 U1 U2 s (AVal.own 5 0 m u false) (AVal.ptr (Oid.hp 3) 2) (bfB 7 (trimR (bytesOf rows)) m12) a tr
      (Obj.arr 3 orows u) (List.map (fun (c : UInt8) => [AVal.int IntKind.u8 (↑c.toNat : Int)]) (trimR (bytesOf rows)))
      m12)))
  (m19 : Nat) (e_m19 : m19 = (u + 1))
  (m20 : Nat) (e_m20 : m20 = (bif c18 then u else m19))
  (m21 : Nat) (e_m21 : m21 = (orows.length + 1))
  (m22 : Nat) (e_m22 : m22 = (bif c18 then orows.length else m21))
  (m23 : Nat) (e_m23 : m23 = (m22 + 1))
  (c24 : Bool) (e_c24 : c24 = (m20 == m20 &&
        m22 ==
          (bif c18 then orows
            else orows.append [[AVal.int IntKind.i64 1, AVal.str l13, AVal.int IntKind.i64 a]]).length &&
      decide ((2 * m23 + 1000) * 32 ≤ 281474976710656) &&
    true))
  (m25 : Nat) (e_m25 : m25 = (m20 + 1))
  (c26 : Bool) (e_c26 : c26 = (tst
    ((Can (SpH.mk U0 U1 U2 s (AVal.own 5 0 m u false) ad b a tr (Obj.arr 3 orows u) rows v) ∧
        CanO (AVal.own 5 0 m u false) (Obj.arr 3 orows u) ∧
          (bytesOf rows).length ≤ 1073741824 ∧ orows.length ≤ 1073741824) ∧
      SubL [AVal.ptr (Oid.hp 3) 0] [AVal.ptr (Oid.hp 3) 0] ∧
        HsP U0 U1 U2 s (AVal.own 5 0 m u false) ad b a tr (Obj.arr 3 orows u) (Obj.arr 1 rows v) =
          (SpH.mk U0 U1 U2 s (AVal.own 5 0 m u false) ad b a tr (Obj.arr 3 orows u) rows v).heap)))
  (c27 : Bool) (e_c27 : c27 = (flN (SpH.mk U0 U1 U2 s (AVal.own 5 0 m u false) ad b a tr (Obj.arr 3 orows u) rows v)))
  (m28 : Nat) (e_m28 : m28 = (bif c27 then u else m19))
  (m29 : Nat) (e_m29 : m29 = (bif c27 then orows.length else m21))
  (m30 : Nat) (e_m30 : m30 = (m29 + 1))
  (c31 : Bool) (e_c31 : c31 = (m28 == m28 &&
        m29 ==
          (bif c27 then orows
            else orows.append [[AVal.int IntKind.i64 1, AVal.str (bytesOf rows), AVal.int IntKind.i64 a]]).length &&
      decide ((2 * m30 + 1000) * 32 ≤ 281474976710656) &&
    true))
  (m32 : Nat) (e_m32 : m32 = (m28 + 1))
  (c33 : Bool) (e_c33 : c33 = (decide (0 ≤ n5 ∧ n5 ≤ 1099511627776 ∧ s.length ≤ 1099511627776)))
  (n34 : Int) (e_n34 : n34 = (win (List.drop m7 s) false false m7))
  (c35 : Bool) (e_c35 : c35 = (!decide (n34 ≥ 0)))
  (c36 : Bool) (e_c36 : c36 = (c6 && decide (n5 ≤ n34) && decide (n34 ≤ n1)))
  (l37 : List UInt8) (e_l37 : l37 = (List.drop m7 (List.take n34.toNat s)))
  (c38 : Bool) (e_c38 : c38 = (decide (l37.length ≤ 1099511627776)))
  (c39 : Bool) (e_c39 : c39 = (trimsA l37))
  (l40 : List UInt8) (e_l40 : l40 = (trimsT l37))
  (l41 : List UInt8) (e_l41 : l41 = (trimsU l40))
  (c42 : Bool) (e_c42 : c42 = (decide (l41.length ≤ 1099511627776))) : iFun Tryd.prog (layX5.hd Tryd.prog) layX5.fhs 0 28 [.ptr (.hp 3) 0, .int .i64 at_] (HsP U0 U1 U2 s (.own 5 0 m u false) ad b a tr (.arr 3 orows u) (.arr 1 rows v)) k = (
  bif decide (0 ≤ at_ ∧ n0 ≤ n1 ∧ s.length ≤ 1073741824) then
    bif rmIs s at_.toNat then
      bif decide (rmN s at_.toNat ≥ 0) then
        bif decide (n2 ≥ 0) then
          bif decide (0 ≤ n2 ∧ n2 ≤ 1099511627776 ∧ s.length ≤ 1099511627776) then
            bif !decide (n4 ≥ 0) then
              k
                (Out.panic (AVal.iface 56 (AVal.agg [AVal.int IntKind.i64 at_, AVal.int IntKind.i64 8]))
                  (HsP U0 U1 U2 s (AVal.own 5 0 m u false) ad b a tr (Obj.arr 3 orows u) (Obj.arr 1 rows v)))
            else
              bif c6 && decide (n5 ≤ n4) && decide (n4 ≤ n1) then
                bif decide (l8.length ≤ 1099511627776) then
                  bif trimsA l8 then
                    bif c9 then
                      bif c10 then
                        bif c14 then
                          bif c17 then
                            bif c24 then
                              k
                                (Out.ret (AVal.int IntKind.i64 (IntKind.i64.wrap (n4 + 2)))
                                  [U0, U1, U2,
                                    Obj.var
                                      [AVal.str s, AVal.own 5 0 m23 m25 false, AVal.nilptr, AVal.nilX,
                                        AVal.int IntKind.i64 a, AVal.bool (trimsZ l15)],
                                    Obj.note 64 6,
                                    Obj.arr 3
                                      ((bif c18 then orows
                                          else
                                            orows.append
                                              [[AVal.int IntKind.i64 1, AVal.str l13, AVal.int IntKind.i64 a]]).append
                                        [[AVal.int IntKind.i64 2, AVal.str (trimL (trimR l16)),
                                            AVal.int IntKind.i64 at_]])
                                      m25,
                                    Obj.note 30 0, Obj.arr 1 [] (bif c18 then m12 else m12 + 1), Obj.note 5 0])
                            else none
                          else none
                        else none
                      else
                        k
                          (Out.ret (AVal.int IntKind.i64 (IntKind.i64.wrap (n4 + 2)))
                            [U0, U1, U2,
                              Obj.var
                                [AVal.str s, AVal.own 5 0 m u false, AVal.ptr (Oid.hp 3) 2,
                                  bfB 7 (trimR (bytesOf rows)) m12, AVal.int IntKind.i64 a, AVal.bool (trimsZ l15)],
                              Obj.note 64 6, Obj.arr 3 orows u, Obj.note 30 0,
                              Obj.arr 1
                                (List.map (fun (c : UInt8) => [AVal.int IntKind.u8 (↑c.toNat : Int)])
                                  (trimR (bytesOf rows)))
                                m12,
                              Obj.note 5 0])
                    else none
                  else
                    bif c10 then
                      bif c26 then
                        bif c17 then
                          bif c31 then
                            k
                              (Out.ret (AVal.int IntKind.i64 (IntKind.i64.wrap (n4 + 2)))
                                [U0, U1, U2,
                                  Obj.var
                                    [AVal.str s, AVal.own 5 0 m30 m32 false, AVal.nilptr, AVal.nilX,
                                      AVal.int IntKind.i64 a, AVal.bool (trimsZ l15)],
                                  Obj.note 64 6,
                                  Obj.arr 3
                                    ((bif c27 then orows
                                        else
                                          orows.append
                                            [[AVal.int IntKind.i64 1, AVal.str (bytesOf rows),
                                                AVal.int IntKind.i64 a]]).append
                                      [[AVal.int IntKind.i64 2, AVal.str (trimL (trimR l16)), AVal.int IntKind.i64 at_]])
                                    m32,
                                  Obj.note 30 0, Obj.arr 1 [] (bif c27 then v else m11), Obj.note 5 0])
                          else none
                        else none
                      else none
                    else
                      k
                        (Out.ret (AVal.int IntKind.i64 (IntKind.i64.wrap (n4 + 2)))
                          [U0, U1, U2,
                            Obj.var
                              [AVal.str s, AVal.own 5 0 m u false, ad, b, AVal.int IntKind.i64 a, AVal.bool (trimsZ l15)],
                            Obj.note 64 6, Obj.arr 3 orows u, Obj.note 30 0, Obj.arr 1 rows v, Obj.note 5 0])
                else none
              else none
          else none
        else
          bif c33 then
            bif c35 then
              k
                (Out.panic (AVal.iface 56 (AVal.agg [AVal.int IntKind.i64 at_, AVal.int IntKind.i64 8]))
                  (HsP U0 U1 U2 s (AVal.own 5 0 m u false) ad b a tr (Obj.arr 3 orows u) (Obj.arr 1 rows v)))
            else
              bif c36 then
                bif c38 then
                  bif c39 then
                    bif c9 then
                      bif c10 then
                        bif c14 then
                          bif c42 then
                            bif c24 then
                              k
                                (Out.ret (AVal.int IntKind.i64 (IntKind.i64.wrap (n34 + 2)))
                                  [U0, U1, U2,
                                    Obj.var
                                      [AVal.str s, AVal.own 5 0 m23 m25 false, AVal.nilptr, AVal.nilX,
                                        AVal.int IntKind.i64 a, AVal.bool (trimsZ l40)],
                                    Obj.note 64 6,
                                    Obj.arr 3
                                      ((bif c18 then orows
                                          else
                                            orows.append
                                              [[AVal.int IntKind.i64 1, AVal.str l13, AVal.int IntKind.i64 a]]).append
                                        [[AVal.int IntKind.i64 2, AVal.str (trimL (trimR l41)),
                                            AVal.int IntKind.i64 at_]])
                                      m25,
                                    Obj.note 30 0, Obj.arr 1 [] (bif c18 then m12 else m12 + 1), Obj.note 5 0])
                            else none
                          else none
                        else none
                      else
                        k
                          (Out.ret (AVal.int IntKind.i64 (IntKind.i64.wrap (n34 + 2)))
                            [U0, U1, U2,
                              Obj.var
                                [AVal.str s, AVal.own 5 0 m u false, AVal.ptr (Oid.hp 3) 2,
                                  bfB 7 (trimR (bytesOf rows)) m12, AVal.int IntKind.i64 a, AVal.bool (trimsZ l40)],
                              Obj.note 64 6, Obj.arr 3 orows u, Obj.note 30 0,
                              Obj.arr 1
                                (List.map (fun (c : UInt8) => [AVal.int IntKind.u8 (↑c.toNat : Int)])
                                  (trimR (bytesOf rows)))
                                m12,
                              Obj.note 5 0])
                    else none
                  else
                    bif c10 then
                      bif c26 then
                        bif c42 then
                          bif c31 then
                            k
                              (Out.ret (AVal.int IntKind.i64 (IntKind.i64.wrap (n34 + 2)))
                                [U0, U1, U2,
                                  Obj.var
                                    [AVal.str s, AVal.own 5 0 m30 m32 false, AVal.nilptr, AVal.nilX,
                                      AVal.int IntKind.i64 a, AVal.bool (trimsZ l40)],
                                  Obj.note 64 6,
                                  Obj.arr 3
                                    ((bif c27 then orows
                                        else
                                          orows.append
                                            [[AVal.int IntKind.i64 1, AVal.str (bytesOf rows),
                                                AVal.int IntKind.i64 a]]).append
                                      [[AVal.int IntKind.i64 2, AVal.str (trimL (trimR l41)), AVal.int IntKind.i64 at_]])
                                    m32,
                                  Obj.note 30 0, Obj.arr 1 [] (bif c27 then v else m11), Obj.note 5 0])
                          else none
                        else none
                      else none
                    else
                      k
                        (Out.ret (AVal.int IntKind.i64 (IntKind.i64.wrap (n34 + 2)))
                          [U0, U1, U2,
                            Obj.var
                              [AVal.str s, AVal.own 5 0 m u false, ad, b, AVal.int IntKind.i64 a, AVal.bool (trimsZ l40)],
                            Obj.note 64 6, Obj.arr 3 orows u, Obj.note 30 0, Obj.arr 1 rows v, Obj.note 5 0])
                else none
              else none
          else none
      else
        k
          (Out.panic (AVal.iface 56 (AVal.agg [AVal.int IntKind.i64 at_, AVal.int IntKind.i64 8]))
            (HsP U0 U1 U2 s (AVal.own 5 0 m u false) ad b a tr (Obj.arr 3 orows u) (Obj.arr 1 rows v)))
    else
      bif c33 then
        bif c35 then
          k
            (Out.panic (AVal.iface 56 (AVal.agg [AVal.int IntKind.i64 at_, AVal.int IntKind.i64 8]))
              (HsP U0 U1 U2 s (AVal.own 5 0 m u false) ad b a tr (Obj.arr 3 orows u) (Obj.arr 1 rows v)))
        else
          bif c36 then
            bif c38 then
              bif c39 then
                bif c9 then
                  bif c14 then
                    bif c42 then
                      bif c24 then
                        k
                          (Out.ret (AVal.int IntKind.i64 (IntKind.i64.wrap (n34 + 2)))
                            [U0, U1, U2,
                              Obj.var
                                [AVal.str s, AVal.own 5 0 m23 m25 false, AVal.nilptr, AVal.nilX, AVal.int IntKind.i64 a,
                                  AVal.bool (trimsZ l40)],
                              Obj.note 64 6,
                              Obj.arr 3
                                ((bif c18 then orows
                                    else
                                      orows.append
                                        [[AVal.int IntKind.i64 1, AVal.str l13, AVal.int IntKind.i64 a]]).append
                                  [[AVal.int IntKind.i64 2, AVal.str (trimL (trimR l41)), AVal.int IntKind.i64 at_]])
                                m25,
                              Obj.note 30 0, Obj.arr 1 [] (bif c18 then m12 else m12 + 1), Obj.note 5 0])
                      else none
                    else none
                  else none
                else none
              else
                bif c26 then
                  bif c42 then
                    bif c31 then
                      k
                        (Out.ret (AVal.int IntKind.i64 (IntKind.i64.wrap (n34 + 2)))
                          [U0, U1, U2,
                            Obj.var
                              [AVal.str s, AVal.own 5 0 m30 m32 false, AVal.nilptr, AVal.nilX, AVal.int IntKind.i64 a,
                                AVal.bool (trimsZ l40)],
                            Obj.note 64 6,
                            Obj.arr 3
                              ((bif c27 then orows
                                  else
                                    orows.append
                                      [[AVal.int IntKind.i64 1, AVal.str (bytesOf rows), AVal.int IntKind.i64 a]]).append
                                [[AVal.int IntKind.i64 2, AVal.str (trimL (trimR l41)), AVal.int IntKind.i64 at_]])
                              m32,
                            Obj.note 30 0, Obj.arr 1 [] (bif c27 then v else m11), Obj.note 5 0])
                    else none
                  else none
                else none
            else none
          else none
      else none
  else none) := by
  subst e_n0 e_n1 e_n2 e_m3 e_n4 e_n5 e_c6 e_m7 e_l8 e_c9 e_c10 e_m11 e_m12 e_l13 e_c14 e_l15 e_l16 e_c17 e_c18 e_m19 e_m20 e_m21 e_m22 e_m23 e_c24 e_m25 e_c26 e_c27 e_m28 e_m29 e_m30 e_c31 e_m32 e_c33 e_n34 e_c35 e_c36 e_l37 e_c38 e_c39 e_l40 e_l41 e_c42
  kernel_rfl
/-- where an action's inner text is looked for, and where it ends -/
def acFrom (s : List UInt8) (at_ : Nat) : Nat := bif rmIs s at_ then ((rmF s at_ : Int) + rmN s at_ + 2).toNat else at_ + 2
def acTo (s : List UInt8) (at_ : Nat) : Int := win (s.drop (acFrom s at_)) false false (acFrom s at_)
def acBad (s : List UInt8) (at_ : Nat) : Bool := (rmIs s at_ && !decide (rmN s at_ ≥ 0)) || !decide (acTo s at_ ≥ 0)
def acIn (s : List UInt8) (at_ : Nat) : List UInt8 := (s.take (acTo s at_).toNat).drop (at_ + 2)
def ownLen : AVal → Nat
  | .own _ _ l _ _ => l
  | _ => 0
def pushM (x : SpH) (r : List AVal) : SpH := { x with o := .own 5 0 (ownLen x.o + 1) (verO x.O + 1) false, O := .arr 3 (rowsO x.O ++ [r]) (verO x.O + 1) }
def acM (x : SpH) (at_ : Nat) : SpH :=
  bif rmIs x.s at_ then (bif trimsA (acIn x.s at_) then cutM x else x) else pushM (flushM (bif trimsA (acIn x.s at_) then cutM x else x)) [.int .i64 2, .str (trimL (trimR (trimsU (trimsT (acIn x.s at_))))), .int .i64 at_]
def actionM (x : SpH) (at_ : Nat) : SpH := ⟨x.U0, x.U1, x.U2, x.s, (acM x at_).o, (acM x at_).ad, (acM x at_).b, x.a, trimsZ (trimsT (acIn x.s at_)), (acM x at_).O, (acM x at_).rows, (acM x at_).v⟩
theorem acFrom_le (s : List UInt8) (at_ : Nat) (h : acBad s at_ = false) (h1 : at_ + 2 ≤ s.length) : at_ + 2 ≤ acFrom s at_ ∧ 0 ≤ acTo s at_ ∧ (acFrom s at_ : Int) ≤ acTo s at_ ∧ acTo s at_ < s.length := by
  unfold acBad at h
  simp only [Bool.or_eq_false_iff, Bool.not_eq_false', decide_eq_true_eq] at h
  obtain ⟨h2, h3⟩ := h
  have h4 : at_ + 2 ≤ acFrom s at_ := by
    unfold acFrom
    cases hr : rmIs s at_ with
    | false => exact Nat.le_refl _
    | true =>
      simp only [cond_true]
      rw [hr] at h2
      simp only [Bool.true_and, Bool.not_eq_false', decide_eq_true_eq] at h2
      have := rmT_len s at_
      unfold rmF
      omega
  have h5 := win_ge (s.drop (acFrom s at_)) false false (acFrom s at_)
  have h6 : (s.drop (acFrom s at_)).length = s.length - acFrom s at_ := by simp
  unfold acTo at *
  omega
theorem fl_len (x : SpH) : (rowsO (flushM x).O).length ≤ (rowsO x.O).length + 1 := by
  unfold flushM
  simp only [rowsO]
  cases flN x <;> simp
theorem can_w (l : List UInt8) (w : Nat) : CanB (.ptr (.hp 3) 2) (bfB 7 l w) (l.map byteRow) w := ⟨.inr rfl, by rw [bytesOf_map], by rw [bytesOf_map]⟩
theorem bif_len (c : Bool) (rows : List (List AVal)) (r : List AVal) : ((bif c then rows.length else rows.length + 1) == (bif c then rows else rows ++ [r]).length) = true := by cases c <;> simp
theorem bif_le (c : Bool) (n : Nat) : (bif c then n else n + 1) ≤ n + 1 := by cases c <;> simp
end Go.Mu
