/-
  Lemmas on the given program (part 5).
-/
import Derived.Test.YtfepcpcnfibbnaaDoorM4
import Derived.Test.YtfepcpcnfibbnaaDoorProg
import Derived.KernelRfl
set_option linter.unusedVariables false
set_option linter.unusedSimpArgs false
set_option maxRecDepth 100000
namespace Go.Mu
open Go Go.Proofs
def quI (d : UInt8) : Int :=
  let n11 : Int := if (34 == d) = true then 0 else -1
  let n12 : Int := if (92 == d) = true then 0 else if (n11 == -1) = true then -1 else n11 + 1
  let n13 : Int := if (9 == d) = true then 0 else if (n12 == -1) = true then -1 else n12 + 1
  if (10 == d) = true then 0 else if (n13 == -1) = true then -1 else n13 + 1
def quO (d : UInt8) : UInt8 := [110, 116, 92, 34].getD (quI d).toNat 0
theorem quI_lt (d : UInt8) : quI d < 4 := by
  have h : ∀ n : Fin 256, quI (UInt8.ofNat n) < 4 := by decide +kernel
  have := h ⟨d.toNat, d.toNat_lt⟩
  simpa using this
def quC (c : UInt8) : List UInt8 := bif decide (quI c ≥ 0) then [92, quO c] else [c]
def quX (x : Bld) (c : UInt8) : Bld := bif decide (quI c ≥ 0) then (x.add 0 2 [92]).add 0 2 [quO c] else x.add 0 2 [c]
noncomputable def layU1 : Lay := b0_lay layX3
theorem layU1_ok : layU1.OK Tryd.prog := b0_ok layX3_ok
noncomputable def quSp : LSp := mkL (fun vs _ H => (bld H 0 2, decL decB (vs.getD 1 .undef), (aI vs 3).toNat, fullOf (vs.getD 1 .undef))) (fun x => x.1.can 0 2 ∧ x.1.t.length ≤ 2 * x.2.2.1 + 1 ∧ x.2.2.1 ≤ x.2.1.length ∧ x.2.1.length ≤ 268435456) (fun x => [.ptr (.hp 0) 0, byL x.2.2.2 x.2.1, .int .i64 x.2.1.length, .int .i64 x.2.2.1]) (fun _ => []) (fun x => (b0H.mk x.1).heap)
  (fun x k => k (.exit 0) [.ptr (.hp 0) 0] [] (b0H.mk ((x.2.1.drop x.2.2.1).foldl quX x.1)).heap)
noncomputable def quFH : FH := { FH.of [(4, loopSpec 27 [3,9,10,11] [] [3] [] quSp)] with heap := [3], typed := [(3, [(0, bT)])], exact := true }
theorem qu_step (x : Bld) (f : Bool) (l : List UInt8) (n i : Int) (D : List (FuncId × List AVal)) (k : Kont) (n0 : Int) (e_n0 : n0 = ((↑(l.getD i.toNat 0).toNat : Int)))
  (m1 : Nat) (e_m1 : m1 = (n0.toNat))
  (v2 : UInt8) (e_v2 : v2 = (m1.toUInt8))
  (n3 : Int) (e_n3 : n3 = (if (34 == v2) = true then 0 else -1))
  (n4 : Int) (e_n4 : n4 = (if (92 == v2) = true then 0 else if (n3 == -1) = true then -1 else n3 + 1))
  (n5 : Int) (e_n5 : n5 = (if (9 == v2) = true then 0 else if (n4 == -1) = true then -1 else n4 + 1))
  (n6 : Int) (e_n6 : n6 = (if (10 == v2) = true then 0 else if (n5 == -1) = true then -1 else n5 + 1))
  (l7 : List UInt8) (e_l7 : l7 = ((Bld.mk x.ad x.b x.rows x.v).t))
  (m8 : Nat) (e_m8 : m8 = (wsV l7 [UInt8.ofNat (Int.toNat 92)] x.v))
  (l9 : List UInt8) (e_l9 : l9 = ((Bld.mk (AVal.ptr (Oid.hp 0) 0) (bfB 2 (l7.append [UInt8.ofNat (Int.toNat 92)]) m8)
      (x.rows.append [[AVal.int IntKind.u8 (↑(UInt8.ofNat (Int.toNat 92)).toNat : Int)]]) m8).t))
  (n10 : Int) (e_n10 : n10 = ((↑(([110, 116, 92, 34] : List UInt8).getD n6.toNat 0).toNat : Int)))
  (v11 : UInt8) (e_v11 : v11 = (UInt8.ofNat n10.toNat))
  (l12 : List UInt8) (e_l12 : l12 = ([v11]))
  (m13 : Nat) (e_m13 : m13 = (wsV l9 l12 m8))
  (v14 : UInt8) (e_v14 : v14 = (UInt8.ofNat m1))
  (l15 : List UInt8) (e_l15 : l15 = ([v14]))
  (m16 : Nat) (e_m16 : m16 = (wsV l7 l15 x.v)) : lturn Tryd.prog layU1 quFH 28 4 [3,9,10,11] [] [3] [] (stL 27 [3,9,10,11] [.ptr (.hp 0) 0, byL f l, .int .i64 n, .int .i64 i] [] [] (b0H.mk x).heap D) k = (
  bif decide (i < n) then
  bif decide (0 ≤ i) && decide (i < (↑l.length : Int)) then
  bif decide (n6 ≥ 0) then
  bif
  tst
  ((Bld.can 0 2 (Bld.mk x.ad x.b x.rows x.v) ∧ l7.length ≤ 1073741824) ∧
  SubL [AVal.ptr (Oid.hp 0) 0, AVal.int IntKind.u8 92]
  [AVal.ptr (Oid.hp 0) 0, AVal.int IntKind.u8 (↑(UInt8.ofNat (Int.toNat 92)).toNat : Int)] ∧
  (b0H.mk x).heap = (b0H.mk (Bld.mk x.ad x.b x.rows x.v)).heap) then
  bif decide (0 ≤ n6) && decide (n6 < 4) then
  bif
  tst
  ((Bld.can 0 2
  (Bld.mk (AVal.ptr (Oid.hp 0) 0) (bfB 2 (l7.append [UInt8.ofNat (Int.toNat 92)]) m8)
  (x.rows.append [[AVal.int IntKind.u8 (↑(UInt8.ofNat (Int.toNat 92)).toNat : Int)]]) m8) ∧
  l9.length ≤ 1073741824) ∧
  SubL [AVal.ptr (Oid.hp 0) 0, AVal.int IntKind.u8 n10]
  [AVal.ptr (Oid.hp 0) 0, AVal.int IntKind.u8 (↑v11.toNat : Int)] ∧
  (b0H.mk
  (Bld.mk (AVal.ptr (Oid.hp 0) 0) (bfB 2 (l7.append [UInt8.ofNat (Int.toNat 92)]) m8)
  (x.rows.append [[AVal.int IntKind.u8 (↑(UInt8.ofNat (Int.toNat 92)).toNat : Int)]])
  m8)).heap =
  (b0H.mk
  (Bld.mk (AVal.ptr (Oid.hp 0) 0) (bfB 2 (l7.append [UInt8.ofNat (Int.toNat 92)]) m8)
  (x.rows.append [[AVal.int IntKind.u8 (↑(UInt8.ofNat (Int.toNat 92)).toNat : Int)]])
  m8)).heap) then
  k AExit.normal
  (stL 27 [3, 9, 10, 11]
  [AVal.ptr (Oid.hp 0) 0,
  AVal.list f l.length fun (i : Nat) => [AVal.int IntKind.u8 (↑(l.getD i 0).toNat : Int)],
  AVal.int IntKind.i64 n, AVal.int IntKind.i64 (IntKind.i64.wrap (i + 1))]
  [] []
  (b0H.mk
  (Bld.mk (AVal.ptr (Oid.hp 0) 0) (bfB 2 (l9.append l12) m13)
  ((x.rows.append [[AVal.int IntKind.u8 (↑(UInt8.ofNat (Int.toNat 92)).toNat : Int)]]).append
  [[AVal.int IntKind.u8 (↑v11.toNat : Int)]])
  m13)).heap
  D)
  else none
  else none
  else none
  else
  bif
  tst
  ((Bld.can 0 2 (Bld.mk x.ad x.b x.rows x.v) ∧ l7.length ≤ 1073741824) ∧
  SubL [AVal.ptr (Oid.hp 0) 0, AVal.int IntKind.u8 n0]
  [AVal.ptr (Oid.hp 0) 0, AVal.int IntKind.u8 (↑v14.toNat : Int)] ∧
  (b0H.mk x).heap = (b0H.mk (Bld.mk x.ad x.b x.rows x.v)).heap) then
  k AExit.normal
  (stL 27 [3, 9, 10, 11]
  [AVal.ptr (Oid.hp 0) 0,
  AVal.list f l.length fun (i : Nat) => [AVal.int IntKind.u8 (↑(l.getD i 0).toNat : Int)],
  AVal.int IntKind.i64 n, AVal.int IntKind.i64 (IntKind.i64.wrap (i + 1))]
  [] []
  (b0H.mk
  (Bld.mk (AVal.ptr (Oid.hp 0) 0) (bfB 2 (l7.append l15) m16)
  (x.rows.append [[AVal.int IntKind.u8 (↑v14.toNat : Int)]]) m16)).heap
  D)
  else none
  else none
  else k (AExit.exit 0) (stL 27 [3] [AVal.ptr (Oid.hp 0) 0] [] [] (b0H.mk x).heap D)) := by
  subst e_n0 e_m1 e_v2 e_n3 e_n4 e_n5 e_n6 e_l7 e_m8 e_l9 e_n10 e_v11 e_l12 e_m13 e_v14 e_l15 e_m16
  kernel_rfl
theorem quX_can {x : Bld} (h : x.can 0 2) (c : UInt8) : (quX x c).can 0 2 := by
  unfold quX
  cases decide (quI c ≥ 0)
  · exact Bld.add_can h _
  · exact Bld.add_can (Bld.add_can h _) _
theorem quX_t (x : Bld) (c : UInt8) : (quX x c).t = x.t ++ quC c := by
  unfold quX quC
  cases decide (quI c ≥ 0)
  · exact Bld.add_t 0 2 x [c]
  · simp only [cond_true]
    rw [Bld.add_t, Bld.add_t, List.append_assoc]
    rfl
theorem quC_len (c : UInt8) : (quC c).length ≤ 2 := by
  unfold quC
  cases decide (quI c ≥ 0) <;> simp
theorem quF_t : ∀ (l : List UInt8) (x : Bld), (l.foldl quX x).t = x.t ++ l.flatMap quC
  | [], x => by simp
  | c :: l, x => by rw [List.foldl_cons, quF_t l, quX_t, List.flatMap_cons, List.append_assoc]
theorem quF_can : ∀ (l : List UInt8) (x : Bld), x.can 0 2 → (l.foldl quX x).can 0 2
  | [], x, h => h
  | c :: l, x, h => quF_can l _ (quX_can h c)
theorem qu_len : ∀ l : List UInt8, (l.flatMap quC).length ≤ 2 * l.length
  | [] => Nat.le_refl _
  | c :: l => by
    rw [List.flatMap_cons, List.length_append, List.length_cons]
    have := quC_len c
    have := qu_len l
    omega
theorem qu_runs (f : Bool) (l : List UInt8) (hl : l.length ≤ 268435456) : ∀ (m i : Nat) (x : Bld), l.length - i ≤ m → i ≤ l.length → x.can 0 2 → x.t.length ≤ 2 * i + 1 →
    LoopRuns (lturn Tryd.prog layU1 quFH 28 4 [3,9,10,11] [] [3] []) 27 [3,9,10,11] [] [3] [] [.ptr (.hp 0) 0, byL f l, .int .i64 l.length, .int .i64 i] [] (b0H.mk x).heap (.exit 0) [.ptr (.hp 0) 0] [] (b0H.mk ((l.drop i).foldl quX x)).heap := by
  intro m
  induction m with
  | zero =>
    intro i x hm hi hx ht
    have e : l.drop i = [] := List.drop_eq_nil_of_le (by omega)
    rw [e]
    refine .stop (by simp) (fun D k => ?_)
    refine (qu_step x f l l.length i D k _ rfl _ rfl _ rfl _ rfl _ rfl _ rfl _ rfl _ rfl _ rfl _ rfl _ rfl _ rfl _ rfl _ rfl _ rfl _ rfl _ rfl).trans ?_
    rw [dF (by omega)]
    rfl
  | succ m ih =>
    intro i x hm hi hx ht
    by_cases hlt : i < l.length
    case neg =>
      have e : l.drop i = [] := List.drop_eq_nil_of_le (by omega)
      rw [e]
      refine .stop (by simp) (fun D k => ?_)
      refine (qu_step x f l l.length i D k _ rfl _ rfl _ rfl _ rfl _ rfl _ rfl _ rfl _ rfl _ rfl _ rfl _ rfl _ rfl _ rfl _ rfl _ rfl _ rfl _ rfl).trans ?_
      rw [dF (by omega)]
      rfl
    obtain ⟨c, hc⟩ : ∃ c, c = l.getD i 0 := ⟨_, rfl⟩
    have ed := drop_cons_of l i 0 hlt
    rw [← hc] at ed
    rw [ed, List.foldl_cons]
    have e2 : IntKind.i64.wrap ((i : Int) + 1) = ((i + 1 : Nat) : Int) := by rw [wrap_of (by omega) (by omega)]; omega
    have key := fun D k => qu_step x f l l.length i D k (c.toNat : Int) (by rw [Int.toNat_natCast, hc]) c.toNat (by omega) c (by simp) _ rfl _ rfl _ rfl (quI c) rfl x.t rfl _ rfl (x.add 0 2 [92]).t rfl ((quO c).toNat : Int) rfl (quO c) (by rw [ofU8]) _ rfl _ rfl c (by simp) _ rfl _ rfl
    have h4 := quI_lt c
    simp (disch := omega) only [dT, cond_true, Bool.and_self, e2] at key
    have t92 : (x.add 0 2 [92]).t = x.t ++ [92] := Bld.add_t 0 2 x [92]
    have ih2 := ih (i + 1) (quX x c) (by omega) (by omega) (quX_can hx c) (by rw [quX_t, List.length_append]; have := quC_len c; omega)
    by_cases h0 : quI c ≥ 0
    · simp (disch := omega) only [dT, cond_true, Bool.and_self] at key
      have hk : x.t.length ≤ 1073741824 := by omega
      replace key := fun D k => (key D k).trans ((congrArg (fun c => cond c _ none) (tst_true ⟨⟨hx, hk⟩, .refl _, by trivial⟩)).trans rfl)
      replace key := fun D k => (key D k).trans ((congrArg (fun c => cond c _ none) (tst_true ⟨⟨Bld.add_can hx _, by rw [t92, List.length_append]; show _ + 1 ≤ _; omega⟩, .refl _, by trivial⟩)).trans rfl)
      have eX : quX x c = (x.add 0 2 [92]).add 0 2 [quO c] := by unfold quX; rw [dT h0]; rfl
      rw [eX] at ih2 ⊢
      exact .step key ih2
    · simp (disch := omega) only [dF, cond_false] at key
      replace key := fun D k => (key D k).trans ((congrArg (fun c => cond c _ none) (tst_true ⟨⟨hx, by omega⟩, .refl _, by trivial⟩)).trans rfl)
      have eX : quX x c = x.add 0 2 [c] := by unfold quX; rw [dF h0]; rfl
      rw [eX] at ih2 ⊢
      exact .step key ih2
theorem quSp_ok : SpOK (lturn Tryd.prog layU1 quFH 28 4 [3,9,10,11] [] [3] []) 27 [3,9,10,11] [] [3] [] quSp := mkL_ok fun a h => ⟨_, _, _, _, fun k => rfl, qu_runs a.2.2.2 a.2.1 h.2.2.2 _ a.2.2.1 a.1 (Nat.le_refl _) h.2.2.1 h.1 h.2.1⟩
noncomputable def layU2 : Lay := layU1.addL 28 quFH
theorem layU2_ok : layU2.OK Tryd.prog := layU1_ok.loop1 (id := 4) (by kernel_rfl) (by kernel_rfl) (by kernel_rfl) quSp_ok
theorem quote_fun (s : List UInt8) (k : Out → Ans) (l0 : List UInt8) (e_l0 : l0 = (decL (fun (r : List AVal) => byteOf r)
    (AVal.list false s.length fun (i : Nat) => [AVal.int IntKind.u8 (↑(s.getD i 0).toNat : Int)])))
  (m1 : Nat) (e_m1 : m1 = (l0.length))
  (m2 : Nat) (e_m2 : m2 = ((List.foldl quX
      (Bld.mk (AVal.ptr (Oid.hp 0) 0)
        (AVal.own 2 0 1 (wsV (Bld.mk AVal.nilptr AVal.nilX [] 0).t [UInt8.ofNat (Int.toNat 34)] 0) false)
        [[AVal.int IntKind.u8 (↑(UInt8.ofNat (Int.toNat 34)).toNat : Int)]]
        (wsV (Bld.mk AVal.nilptr AVal.nilX [] 0).t [UInt8.ofNat (Int.toNat 34)] 0))
      (List.drop (Int.toNat 0) l0)).v))
  (l3 : List UInt8) (e_l3 : l3 = ((Bld.mk
      (List.foldl quX
          (Bld.mk (AVal.ptr (Oid.hp 0) 0)
            (AVal.own 2 0 1 (wsV (Bld.mk AVal.nilptr AVal.nilX [] 0).t [UInt8.ofNat (Int.toNat 34)] 0) false)
            [[AVal.int IntKind.u8 (↑(UInt8.ofNat (Int.toNat 34)).toNat : Int)]]
            (wsV (Bld.mk AVal.nilptr AVal.nilX [] 0).t [UInt8.ofNat (Int.toNat 34)] 0))
          (List.drop (Int.toNat 0) l0)).ad
      (List.foldl quX
          (Bld.mk (AVal.ptr (Oid.hp 0) 0)
            (AVal.own 2 0 1 (wsV (Bld.mk AVal.nilptr AVal.nilX [] 0).t [UInt8.ofNat (Int.toNat 34)] 0) false)
            [[AVal.int IntKind.u8 (↑(UInt8.ofNat (Int.toNat 34)).toNat : Int)]]
            (wsV (Bld.mk AVal.nilptr AVal.nilX [] 0).t [UInt8.ofNat (Int.toNat 34)] 0))
          (List.drop (Int.toNat 0) l0)).b
      (List.foldl quX
          (Bld.mk (AVal.ptr (Oid.hp 0) 0)
            (AVal.own 2 0 1 (wsV (Bld.mk AVal.nilptr AVal.nilX [] 0).t [UInt8.ofNat (Int.toNat 34)] 0) false)
            [[AVal.int IntKind.u8 (↑(UInt8.ofNat (Int.toNat 34)).toNat : Int)]]
            (wsV (Bld.mk AVal.nilptr AVal.nilX [] 0).t [UInt8.ofNat (Int.toNat 34)] 0))
          (List.drop (Int.toNat 0) l0)).rows
      m2).t))
  (m4 : Nat) (e_m4 : m4 = (wsV l3 [UInt8.ofNat (Int.toNat 34)] m2))
  (l5 : List UInt8) (e_l5 : l5 = ((Bld.mk (AVal.ptr (Oid.hp 0) 0) (bfB 2 (l3.append [UInt8.ofNat (Int.toNat 34)]) m4)
      ((List.foldl quX
              (Bld.mk (AVal.ptr (Oid.hp 0) 0)
                (AVal.own 2 0 1 (wsV (Bld.mk AVal.nilptr AVal.nilX [] 0).t [UInt8.ofNat (Int.toNat 34)] 0) false)
                [[AVal.int IntKind.u8 (↑(UInt8.ofNat (Int.toNat 34)).toNat : Int)]]
                (wsV (Bld.mk AVal.nilptr AVal.nilX [] 0).t [UInt8.ofNat (Int.toNat 34)] 0))
              (List.drop (Int.toNat 0) l0)).rows.append
        [[AVal.int IntKind.u8 (↑(UInt8.ofNat (Int.toNat 34)).toNat : Int)]])
      m4).t)) : iFun Tryd.prog (layU2.hd Tryd.prog) layU2.fhs 0 28 [.str s] [] k = (
  bif
      tst
        ((Bld.can 0 2 (Bld.mk AVal.nilptr AVal.nilX [] 0) ∧ 0 ≤ 1073741824) ∧
          SubL [AVal.ptr (Oid.hp 0) 0, AVal.int IntKind.u8 34]
              [AVal.ptr (Oid.hp 0) 0, AVal.int IntKind.u8 (↑(UInt8.ofNat (Int.toNat 34)).toNat : Int)] ∧
            [Obj.var [AVal.nilptr, AVal.nilX], Obj.note 98 2, Obj.arr 1 [] 0, Obj.note 5 0] =
              (b0H.mk (Bld.mk AVal.nilptr AVal.nilX [] 0)).heap) then
    bif
        tst
          ((Bld.can 0 2
                (Bld.mk (AVal.ptr (Oid.hp 0) 0)
                  (AVal.own 2 0 1 (wsV (Bld.mk AVal.nilptr AVal.nilX [] 0).t [UInt8.ofNat (Int.toNat 34)] 0) false)
                  [[AVal.int IntKind.u8 (↑(UInt8.ofNat (Int.toNat 34)).toNat : Int)]]
                  (wsV (Bld.mk AVal.nilptr AVal.nilX [] 0).t [UInt8.ofNat (Int.toNat 34)] 0)) ∧
              1 ≤ 2 * Int.toNat 0 + 1 ∧ Int.toNat 0 ≤ m1 ∧ m1 ≤ 268435456) ∧
            SubTL
                [AVal.ptr (Oid.hp 0) 0,
                  AVal.list false s.length fun (i : Nat) => [AVal.int IntKind.u8 (↑(s.getD i 0).toNat : Int)],
                  AVal.int IntKind.i64 (↑s.length : Int), AVal.int IntKind.i64 0]
                [AVal.ptr (Oid.hp 0) 0, byL false l0, AVal.int IntKind.i64 (↑m1 : Int),
                  AVal.int IntKind.i64 (↑(Int.toNat 0) : Int)] ∧
              ([] : List (List AVal)) = [] ∧
                (b0H.mk
                      (Bld.mk (AVal.ptr (Oid.hp 0) 0)
                        (bfB 2 [UInt8.ofNat (Int.toNat 34)]
                          (wsV (Bld.mk AVal.nilptr AVal.nilX [] 0).t [UInt8.ofNat (Int.toNat 34)] 0))
                        [[AVal.int IntKind.u8 (↑(UInt8.ofNat (Int.toNat 34)).toNat : Int)]]
                        (wsV (Bld.mk AVal.nilptr AVal.nilX [] 0).t [UInt8.ofNat (Int.toNat 34)] 0))).heap =
                  (b0H.mk
                      (Bld.mk (AVal.ptr (Oid.hp 0) 0)
                        (AVal.own 2 0 1 (wsV (Bld.mk AVal.nilptr AVal.nilX [] 0).t [UInt8.ofNat (Int.toNat 34)] 0) false)
                        [[AVal.int IntKind.u8 (↑(UInt8.ofNat (Int.toNat 34)).toNat : Int)]]
                        (wsV (Bld.mk AVal.nilptr AVal.nilX [] 0).t [UInt8.ofNat (Int.toNat 34)] 0))).heap) then
      bif
          tst
            ((Bld.can 0 2
                  (Bld.mk
                    (List.foldl quX
                        (Bld.mk (AVal.ptr (Oid.hp 0) 0)
                          (AVal.own 2 0 1 (wsV (Bld.mk AVal.nilptr AVal.nilX [] 0).t [UInt8.ofNat (Int.toNat 34)] 0)
                            false)
                          [[AVal.int IntKind.u8 (↑(UInt8.ofNat (Int.toNat 34)).toNat : Int)]]
                          (wsV (Bld.mk AVal.nilptr AVal.nilX [] 0).t [UInt8.ofNat (Int.toNat 34)] 0))
                        (List.drop (Int.toNat 0) l0)).ad
                    (List.foldl quX
                        (Bld.mk (AVal.ptr (Oid.hp 0) 0)
                          (AVal.own 2 0 1 (wsV (Bld.mk AVal.nilptr AVal.nilX [] 0).t [UInt8.ofNat (Int.toNat 34)] 0)
                            false)
                          [[AVal.int IntKind.u8 (↑(UInt8.ofNat (Int.toNat 34)).toNat : Int)]]
                          (wsV (Bld.mk AVal.nilptr AVal.nilX [] 0).t [UInt8.ofNat (Int.toNat 34)] 0))
                        (List.drop (Int.toNat 0) l0)).b
                    (List.foldl quX
                        (Bld.mk (AVal.ptr (Oid.hp 0) 0)
                          (AVal.own 2 0 1 (wsV (Bld.mk AVal.nilptr AVal.nilX [] 0).t [UInt8.ofNat (Int.toNat 34)] 0)
                            false)
                          [[AVal.int IntKind.u8 (↑(UInt8.ofNat (Int.toNat 34)).toNat : Int)]]
                          (wsV (Bld.mk AVal.nilptr AVal.nilX [] 0).t [UInt8.ofNat (Int.toNat 34)] 0))
                        (List.drop (Int.toNat 0) l0)).rows
                    m2) ∧
                l3.length ≤ 1073741824) ∧
              SubL [AVal.ptr (Oid.hp 0) 0, AVal.int IntKind.u8 34]
                  [AVal.ptr (Oid.hp 0) 0, AVal.int IntKind.u8 (↑(UInt8.ofNat (Int.toNat 34)).toNat : Int)] ∧
                (b0H.mk
                      (List.foldl quX
                        (Bld.mk (AVal.ptr (Oid.hp 0) 0)
                          (AVal.own 2 0 1 (wsV (Bld.mk AVal.nilptr AVal.nilX [] 0).t [UInt8.ofNat (Int.toNat 34)] 0)
                            false)
                          [[AVal.int IntKind.u8 (↑(UInt8.ofNat (Int.toNat 34)).toNat : Int)]]
                          (wsV (Bld.mk AVal.nilptr AVal.nilX [] 0).t [UInt8.ofNat (Int.toNat 34)] 0))
                        (List.drop (Int.toNat 0) l0))).heap =
                  (b0H.mk
                      (Bld.mk
                        (List.foldl quX
                            (Bld.mk (AVal.ptr (Oid.hp 0) 0)
                              (AVal.own 2 0 1 (wsV (Bld.mk AVal.nilptr AVal.nilX [] 0).t [UInt8.ofNat (Int.toNat 34)] 0)
                                false)
                              [[AVal.int IntKind.u8 (↑(UInt8.ofNat (Int.toNat 34)).toNat : Int)]]
                              (wsV (Bld.mk AVal.nilptr AVal.nilX [] 0).t [UInt8.ofNat (Int.toNat 34)] 0))
                            (List.drop (Int.toNat 0) l0)).ad
                        (List.foldl quX
                            (Bld.mk (AVal.ptr (Oid.hp 0) 0)
                              (AVal.own 2 0 1 (wsV (Bld.mk AVal.nilptr AVal.nilX [] 0).t [UInt8.ofNat (Int.toNat 34)] 0)
                                false)
                              [[AVal.int IntKind.u8 (↑(UInt8.ofNat (Int.toNat 34)).toNat : Int)]]
                              (wsV (Bld.mk AVal.nilptr AVal.nilX [] 0).t [UInt8.ofNat (Int.toNat 34)] 0))
                            (List.drop (Int.toNat 0) l0)).b
                        (List.foldl quX
                            (Bld.mk (AVal.ptr (Oid.hp 0) 0)
                              (AVal.own 2 0 1 (wsV (Bld.mk AVal.nilptr AVal.nilX [] 0).t [UInt8.ofNat (Int.toNat 34)] 0)
                                false)
                              [[AVal.int IntKind.u8 (↑(UInt8.ofNat (Int.toNat 34)).toNat : Int)]]
                              (wsV (Bld.mk AVal.nilptr AVal.nilX [] 0).t [UInt8.ofNat (Int.toNat 34)] 0))
                            (List.drop (Int.toNat 0) l0)).rows
                        m2)).heap) then
        bif
            tst
              ((Bld.can 0 2
                    (Bld.mk (AVal.ptr (Oid.hp 0) 0) (bfB 2 (l3.append [UInt8.ofNat (Int.toNat 34)]) m4)
                      ((List.foldl quX
                              (Bld.mk (AVal.ptr (Oid.hp 0) 0)
                                (AVal.own 2 0 1 (wsV (Bld.mk AVal.nilptr AVal.nilX [] 0).t [UInt8.ofNat (Int.toNat 34)] 0)
                                  false)
                                [[AVal.int IntKind.u8 (↑(UInt8.ofNat (Int.toNat 34)).toNat : Int)]]
                                (wsV (Bld.mk AVal.nilptr AVal.nilX [] 0).t [UInt8.ofNat (Int.toNat 34)] 0))
                              (List.drop (Int.toNat 0) l0)).rows.append
                        [[AVal.int IntKind.u8 (↑(UInt8.ofNat (Int.toNat 34)).toNat : Int)]])
                      m4) ∧
                  l5.length ≤ 1099511627776) ∧
                SubL [AVal.ptr (Oid.hp 0) 0] [AVal.ptr (Oid.hp 0) 0] ∧
                  (b0H.mk
                        (Bld.mk (AVal.ptr (Oid.hp 0) 0) (bfB 2 (l3.append [UInt8.ofNat (Int.toNat 34)]) m4)
                          ((List.foldl quX
                                  (Bld.mk (AVal.ptr (Oid.hp 0) 0)
                                    (AVal.own 2 0 1
                                      (wsV (Bld.mk AVal.nilptr AVal.nilX [] 0).t [UInt8.ofNat (Int.toNat 34)] 0) false)
                                    [[AVal.int IntKind.u8 (↑(UInt8.ofNat (Int.toNat 34)).toNat : Int)]]
                                    (wsV (Bld.mk AVal.nilptr AVal.nilX [] 0).t [UInt8.ofNat (Int.toNat 34)] 0))
                                  (List.drop (Int.toNat 0) l0)).rows.append
                            [[AVal.int IntKind.u8 (↑(UInt8.ofNat (Int.toNat 34)).toNat : Int)]])
                          m4)).heap =
                    (b0H.mk
                        (Bld.mk (AVal.ptr (Oid.hp 0) 0) (bfB 2 (l3.append [UInt8.ofNat (Int.toNat 34)]) m4)
                          ((List.foldl quX
                                  (Bld.mk (AVal.ptr (Oid.hp 0) 0)
                                    (AVal.own 2 0 1
                                      (wsV (Bld.mk AVal.nilptr AVal.nilX [] 0).t [UInt8.ofNat (Int.toNat 34)] 0) false)
                                    [[AVal.int IntKind.u8 (↑(UInt8.ofNat (Int.toNat 34)).toNat : Int)]]
                                    (wsV (Bld.mk AVal.nilptr AVal.nilX [] 0).t [UInt8.ofNat (Int.toNat 34)] 0))
                                  (List.drop (Int.toNat 0) l0)).rows.append
                            [[AVal.int IntKind.u8 (↑(UInt8.ofNat (Int.toNat 34)).toNat : Int)]])
                          m4)).heap) then
          k
            (Out.ret (AVal.str l5)
              (b0H.mk
                  (Bld.mk (AVal.ptr (Oid.hp 0) 0) (bfB 2 (l3.append [UInt8.ofNat (Int.toNat 34)]) m4) []
                    (bif l5 == [] then m4 else m4 + 1))).heap)
        else none
      else none
    else none
  else none) := by
  subst e_l0 e_m1 e_m2 e_l3 e_m4 e_l5
  kernel_rfl
def quoteM (s : List UInt8) : List UInt8 := 34 :: (s.flatMap quC ++ [34])
abbrev qu0 : Bld := Bld.new.add 0 2 [34]
theorem quote_ok (s : List UInt8) (hs : s.length ≤ 268435456) : CallOK Tryd.prog 28 [.str s] [] (.ret (.str (quoteM s)) []) := by
  have hl := qu_len s
  have c0 : qu0.can 0 2 := Bld.add_can (Bld.new_can 0 2) _
  have c1 : (s.foldl quX qu0).can 0 2 := quF_can s _ c0
  have t1 : (s.foldl quX qu0).t = 34 :: s.flatMap quC := by rw [quF_t]; rfl
  have c2 : ((s.foldl quX qu0).add 0 2 [34]).can 0 2 := Bld.add_can c1 _
  have t2 : ((s.foldl quX qu0).add 0 2 [34]).t = quoteM s := by rw [Bld.add_t, t1]; rfl
  have n1 : (s.foldl quX qu0).t.length ≤ 1073741824 := by rw [t1, List.length_cons]; omega
  have n2 : ((s.foldl quX qu0).add 0 2 [34]).t.length ≤ 1099511627776 := by rw [t2]; unfold quoteM; rw [List.length_cons, List.length_append]; show _ + 1 + 1 ≤ _; omega
  rw [← t2]
  have key := fun k => (quote_fun s k s (decL_encL (d := 0) (full := false) decB_enc s).symm _ rfl _ rfl (s.foldl quX qu0).t rfl _ rfl ((s.foldl quX qu0).add 0 2 [34]).t rfl).trans
    ((congrArg (fun c => cond c _ none) (tst_true ⟨⟨Bld.new_can 0 2, by decide⟩, .refl _, rfl⟩)).trans ((cond_true _ _).trans
    ((congrArg (fun c => cond c _ none) (tst_true ⟨⟨c0, by decide, Nat.zero_le _, hs⟩, .refl _, rfl, rfl⟩)).trans ((cond_true _ _).trans
    ((congrArg (fun c => cond c _ none) (tst_true ⟨⟨c1, n1⟩, .refl _, rfl⟩)).trans ((cond_true _ _).trans
    ((congrArg (fun c => cond c _ none) (tst_true ⟨⟨c2, n2⟩, .refl _, rfl⟩)).trans (cond_true _ _))))))))
  exact layU2_ok.callF rfl key
def quoteTold : FSp := mkFS [.s] (fun xs => decide ((aS xs 0).length ≤ 268435456)) (fun xs k => k (.ret (.str (quoteM (aS xs 0))) []))
theorem quoteTold_ok : ∀ xs H k out, quoteTold xs H k = some out → ∃ o, CallOK Tryd.prog 28 xs H o ∧ k o = some out := mkFS_ok fun ys xs e h => by
  obtain ⟨s, rfl⟩ : ∃ s, xs = [.str s] := ⟨_, e⟩
  exact ⟨_, fun k => rfl, quote_ok s (of_decide_eq_true h)⟩
/- a quoted text is one word -/
theorem quC_str (at_ : Nat) : ∀ (s rest acc : List UInt8) (i : Nat), strQ at_ (s.flatMap quC ++ 34 :: rest) acc i = bif decide (acc.length + s.length ≤ 4096) then ⟨0, 0, acc ++ s, i + (s.flatMap quC).length + 1⟩ else ⟨5, at_, [], 0⟩
  | [], rest, acc, i => by
    have : strQ at_ (34 :: rest) acc i = bif decide (acc.length ≤ 4096) then ⟨0, 0, acc, i + 1⟩ else ⟨5, at_, [], 0⟩ := by
      cases rest with
      | nil => rw [strQ]; rfl
      | cons d u => rw [strQ]; rfl
    simpa using this
  | c :: s, rest, acc, i => by
    have h : ∀ n : Fin 256, (decide (quI (UInt8.ofNat n) ≥ 0) = true → decide (escI (quO (UInt8.ofNat n)) ≥ 0) = true ∧ escO (quO (UInt8.ofNat n)) = UInt8.ofNat n) ∧ (decide (quI (UInt8.ofNat n) ≥ 0) = false → UInt8.ofNat n ≠ 34 ∧ UInt8.ofNat n ≠ 92 ∧ UInt8.ofNat n ≠ 10) := by decide +kernel
    have hc := h ⟨c.toNat, c.toNat_lt⟩
    simp only [UInt8.ofNat_toNat] at hc
    have ih := fun acc i => quC_str at_ s rest acc i
    rw [List.flatMap_cons, List.append_assoc]
    unfold quC
    cases hq : decide (quI c ≥ 0) with
    | true =>
      obtain ⟨e1, e2⟩ := hc.1 hq
      simp only [cond_true]
      show strQ at_ (92 :: quO c :: (s.flatMap quC ++ 34 :: rest)) acc i = _
      rw [strQ, e1, e2]
      have e9 : ((92 : UInt8) == 34) = false := rfl
      have e8 : ((92 : UInt8) == 92) = true := rfl
      rw [e9, e8]
      simp only [cond_false, Bool.and_self, cond_true]
      rw [ih, List.length_append]
      have e7 : acc.length + [c].length + s.length = acc.length + (c :: s).length := by simp; omega
      have e6 : i + 2 + (s.flatMap quC).length + 1 = i + ([92, quO c] ++ s.flatMap quC).length + 1 := by simp; omega
      rw [e7, e6, List.append_assoc]
      rfl
    | false =>
      obtain ⟨n1, n2, n3⟩ := hc.2 hq
      simp only [cond_false]
      have e9 : (c == 34) = false := by simpa using n1
      have e8 : (c == 92) = false := by simpa using n2
      have e5 : (c == 10) = false := by simpa using n3
      show strQ at_ (c :: (s.flatMap quC ++ 34 :: rest)) acc i = _
      have hne : s.flatMap quC ++ 34 :: rest ≠ [] := by simp
      obtain ⟨d, u, hdu⟩ : ∃ d u, s.flatMap quC ++ 34 :: rest = d :: u := by
        match s.flatMap quC ++ 34 :: rest, hne with
        | d :: u, _ => exact ⟨d, u, rfl⟩
      rw [hdu, strQ, e9, e8, e5, ← hdu]
      simp only [cond_false, Bool.false_and, Bool.or_self]
      rw [ih, List.length_append]
      have e7 : acc.length + [c].length + s.length = acc.length + (c :: s).length := by simp; omega
      have e6 : i + 1 + (s.flatMap quC).length + 1 = i + ([c] ++ s.flatMap quC).length + 1 := by simp; omega
      rw [e7, e6, List.append_assoc]
      rfl
theorem one_quote (s rest : List UInt8) : oneM (quoteM s ++ rest) = bif decide (s.length ≤ 4096) then ⟨0, 0, 5, s, (quoteM s).length⟩ else ⟨5, 0, 5, [], 0⟩ := by
  have e : quoteM s ++ rest = 34 :: (s.flatMap quC ++ 34 :: rest) := by unfold quoteM; simp
  have hl : (quoteM s).length = 1 + (s.flatMap quC).length + 1 := by unfold quoteM; simp; omega
  rw [e]
  unfold oneM
  have e1 : (34 :: (s.flatMap quC ++ 34 :: rest)).getD 0 0 = (34 : UInt8) := rfl
  have e2 : (34 :: (s.flatMap quC ++ 34 :: rest)).drop 1 = s.flatMap quC ++ 34 :: rest := rfl
  rw [e1, e2, quC_str 0 s rest [] 1, hl]
  have f1 : (ltr 34 || (34 : UInt8) == 95) = false := by decide
  have f2 : ((34 : UInt8) == 46) = false := rfl
  have f3 : ((34 : UInt8) == 36) = false := rfl
  have f4 : ((34 : UInt8) == 45 || dig 34) = false := by decide
  have f5 : ((34 : UInt8) == 34) = true := rfl
  rw [f1, f2, f3, f4, f5]
  simp only [cond_false, cond_true, List.length_nil, Nat.zero_add, List.nil_append]
  cases decide (s.length ≤ 4096) <;> rfl
end Go.Mu
set_option linter.unusedVariables false
set_option linter.unusedSimpArgs false
set_option maxRecDepth 100000
namespace Go.Mu
open Go Go.Proofs

def oBad (c : UInt8) : Bool := cond (cond (!cond (decide (IntKind.u8.wrap (BitVec.ofInt 8 (c.toNat : Int) ||| BitVec.ofInt 8 32).toNat ≥ 97)) (decide (IntKind.u8.wrap (BitVec.ofInt 8 (c.toNat : Int) ||| BitVec.ofInt 8 32).toNat ≤ 122)) false) ((c.toNat : Int) != 95) false)
  (cond (decide ((c.toNat : Int) < 48)) true (decide ((c.toNat : Int) > 57))) false
def oIdxFH : FH := .of [(2, loopSpec 19 [0,1,7,8] [] [4] [] (idxSp wfB decB oBad 207))]
theorem oIdx_step (full : Bool) (l : List UInt8) (i : Nat) (H : Heap) (D : List (FuncId × List AVal)) (k : Kont) : lturn Tryd.prog Lay.nil oIdxFH 189 2 [0,1,7,8] [] [4] [] (stL 19 [0,1,7,8] [encL full byteRow 0 l, .func 207 [], .int .i64 l.length, .int .i64 i] [] [] H D) k =
    cond (decide ((i : Int) < l.length)) (cond (decide ((i : Int) < l.length)) (cond (oBad (l.getD (i : Int).toNat 0)) (k .ret (stL 19 [4] [.int .i64 i] [] [] H D)) (k .normal (stL 19 [0,1,7,8] [encL full byteRow 0 l, .func 207 [], .int .i64 l.length, .int .i64 (IntKind.i64.wrap ((i : Int) + 1))] [] [] H D))) none)
      (k (.exit 0) (stL 19 [4] [.undef] [] [] H D)) := by kernel_rfl
def layA : Lay := Lay.nil.addL 189 oIdxFH
theorem layA_ok : layA.OK Tryd.prog := Lay.nil_ok.loop1 (id := 2) (by kernel_rfl) (by kernel_rfl) (by kernel_rfl) (idxSp_ok wfB_sub oIdx_step)
def rBadA (c : UInt8) : Bool := cond (!cond (cond (decide ((c.toNat : Int) ≥ 97)) (decide ((c.toNat : Int) ≤ 122)) false) true (cond (decide ((c.toNat : Int) ≥ 65)) (decide ((c.toNat : Int) ≤ 90)) false)) ((c.toNat : Int) != 95) false
def rDig (c : UInt8) : Bool := cond (decide ((c.toNat : Int) ≥ 48)) (decide ((c.toNat : Int) ≤ 57)) false
theorem oBad_eq (c : UInt8) : oBad c = (rBadA c && !rDig c) := by
  have h : ∀ n : Fin 256, oBad (UInt8.ofNat n) = (rBadA (UInt8.ofNat n) && !rDig (UInt8.ofNat n)) := by decide +kernel
  have := h ⟨c.toNat, c.toNat_lt⟩
  simpa using this
theorem rDig_bad (c : UInt8) : (rDig c || oBad c) = rBadA c := by
  have h : ∀ n : Fin 256, (rDig (UInt8.ofNat n) || oBad (UInt8.ofNat n)) = rBadA (UInt8.ofNat n) := by decide +kernel
  have := h ⟨c.toNat, c.toNat_lt⟩
  simpa using this
def nmHit (s : List UInt8) (i : Nat) : Bool := rBadA (s.getD i 0) && (i == 0 || !rDig (s.getD i 0))
def nameB (s : List UInt8) : Bool := decide (1 ≤ s.length ∧ s.length ≤ 32) && !(List.range s.length).any (nmHit s)
theorem nmHit_any (c : UInt8) (t : List UInt8) : (List.range (c :: t).length).any (nmHit (c :: t)) = (rBadA c || t.any oBad) := by
  rw [List.length_cons, List.range_succ_eq_map, List.any_cons, List.any_map]
  have h0 : nmHit (c :: t) 0 = rBadA c := by simp [nmHit]
  have h1 : (nmHit (c :: t) ∘ Nat.succ) = fun i => oBad (t.getD i 0) := by
    funext i
    simp [nmHit, oBad_eq, List.getD_eq_getElem?_getD]
  rw [h0, h1, any_getD]
def rNameSp : LSp := fun vs bs H k => match vs with
  | [.str s, .int .i64 z] => cond (z == 0 && decide (s.length ≤ 4611686018427387903) && bs.isEmpty) (cond ((List.range s.length).any (nmHit s)) (k .ret [.str s, .bool false] [] H) (k (.exit 0) [.str s, .undef] [] H)) none
  | _ => none
def rNameFH : FH := .of [(2, loopSpec 40 [0,3] [] [0,2] [] rNameSp)]
noncomputable abbrev rNameTurn := lturn Tryd.prog layA rNameFH 93 2 [0,3] [] [0,2] []
theorem rName_step0 (i : Nat) (s : List UInt8) (H : Heap) (D : List (FuncId × List AVal)) (k : Kont) : rNameTurn (stL 40 [0,3] [.str s, .int .i64 i] [] [] H D) k =
  cond (decide ((i : Int) < s.length)) (cond (decide ((i : Int) < s.length))
    (cond (decide ((i : Int) < s.length) || !!cond (cond (decide (((s.getD (i : Int).toNat 0).toNat : Int) ≥ 97)) (decide (((s.getD (i : Int).toNat 0).toNat : Int) ≤ 122)) false) true (cond (decide (((s.getD (i : Int).toNat 0).toNat : Int) ≥ 65)) (decide (((s.getD (i : Int).toNat 0).toNat : Int) ≤ 90)) false))
      (cond (decide ((i : Int) < s.length) || !(rBadA (s.getD (i : Int).toNat 0) && !((i : Int) == 0)))
        (cond (cond (rBadA (s.getD (i : Int).toNat 0)) (cond ((i : Int) == 0) true (!rDig (s.getD (i : Int).toNat 0))) false) (k .ret (stL 40 [0,2] [.str s, .bool false] [] [] H D)) (k .normal (stL 40 [0,3] [.str s, .int .i64 (IntKind.i64.wrap ((i : Int) + 1))] [] [] H D)))
        none) none) none)
  (k (.exit 0) (stL 40 [0,2] [.str s, .undef] [] [] H D)) := by kernel_rfl
theorem rName_step (i : Nat) (s : List UInt8) (H : Heap) (D : List (FuncId × List AVal)) (k : Kont) (hi : i < s.length) (hs : s.length ≤ 4611686018427387903) : rNameTurn (stL 40 [0,3] [.str s, .int .i64 i] [] [] H D) k =
    cond (nmHit s i) (k .ret (stL 40 [0,2] [.str s, .bool false] [] [] H D)) (k .normal (stL 40 [0,3] [.str s, .int .i64 ((i + 1 : Nat) : Int)] [] [] H D)) := by
  rw [rName_step0, decide_eq_true (show (i : Int) < s.length by omega), wrap_add1 (by omega)]
  have e : ((i : Int) == 0) = (i == 0) := by
    rw [Bool.eq_iff_iff]; simp
  simp only [e, nmHit, Int.toNat_natCast, Bool.true_or, cond_true]
  cases rBadA (s.getD i 0) <;> cases (i == 0) <;> cases rDig (s.getD i 0) <;> rfl
theorem rNameSp_ok : SpOK rNameTurn 40 [0,3] [] [0,2] [] rNameSp := by
  intro vs bs H k out ho
  unfold rNameSp at ho
  split at ho
  case h_2 => simp at ho
  rename_i s z
  rw [Bool.cond_eq_ite] at ho
  split at ho
  case isFalse => simp at ho
  rename_i hc
  simp only [Bool.and_eq_true, beq_iff_eq, decide_eq_true_eq, List.isEmpty_iff] at hc
  obtain ⟨⟨rfl, hn⟩, rfl⟩ := hc
  have hrun := fun D k => search_any (turn := rNameTurn) (S := fun i => stL 40 [0,3] [.str s, .int .i64 (i : Nat)] [] [] H D) (hit := nmHit s) (n := s.length) (e0 := .exit 0) (e1 := .ret) (R0 := stL 40 [0,2] [.str s, .undef] [] [] H D) (R1 := stL 40 [0,2] [.str s, .bool false] [] [] H D)
    (fun i k hi => rName_step i s H D k hi hn) (fun k => by rw [rName_step0, decide_eq_false (by omega)]; rfl) (by simp) (by simp) k
  cases ha : (List.range s.length).any (nmHit s) with
  | true =>
    rw [ha] at ho
    exact ⟨_, _, _, _, _, _, .refl _, ⟨_, fun D k => (hrun D k).trans (by rw [ha]; rfl)⟩, .refl _, ho⟩
  | false =>
    rw [ha] at ho
    exact ⟨_, _, _, _, _, _, .refl _, ⟨_, fun D k => (hrun D k).trans (by rw [ha]; rfl)⟩, .refl _, ho⟩
def layB : Lay := layA.addL 93 rNameFH
theorem layB_ok : layB.OK Tryd.prog := layA_ok.loop1 (id := 2) (by kernel_rfl) (by kernel_rfl) (by kernel_rfl) rNameSp_ok
theorem rName_fun (s : List UInt8) (k : Out → Ans) : iFun Tryd.prog (layB.hd Tryd.prog) layB.fhs 0 93 [.str s] [] k =
    cond (true && decide (s.length ≤ 4611686018427387903) && true) (cond ((List.range s.length).any (nmHit s)) (k (.ret (.bool false) [])) (k (.ret (.bool (cond (decide ((s.length : Int) ≥ 1)) (decide ((s.length : Int) ≤ 32)) false)) []))) none := by kernel_rfl
theorem oName_fun (s : List UInt8) (k : Out → Ans) : iFun Tryd.prog (layB.hd Tryd.prog) layB.fhs 0 169 [.str s] [] k =
    cond (decide ((0 : Int) < s.length) || !!cond (s == []) true (decide ((s.length : Int) > 32)))
      (cond (decide ((0 : Int) < s.length) || !((!cond (s == []) true (decide ((s.length : Int) > 32))) && decide (((s.getD 0 0).toNat : Int) ≥ 48)))
        (cond (cond (cond (s == []) true (decide ((s.length : Int) > 32))) true (rDig (s.getD 0 0))) (k (.ret (.bool false) []))
          (cond (wfL wfB (encL false byteRow 0 s) && true && ((s.length : Int) == s.length) && true && decide (s.length ≤ 1099511627776) && true)
            (cond ((decL decB (encL false byteRow 0 s)).any oBad) (k (.ret (.bool false) [])) (k (.ret (.bool true) []))) none)) none) none := by kernel_rfl
theorem oName_call (s : List UInt8) (k : Out → Ans) : iFun Tryd.prog (layB.hd Tryd.prog) layB.fhs 0 169 [.str s] [] k = k (.ret (.bool (nameB s)) []) := by
  rw [oName_fun, wfL_encL wfB_enc, decL_encL decB_enc]
  cases s with
  | nil => rfl
  | cons c t =>
    have h0 : decide ((0 : Int) < ((c :: t).length : Int)) = true := by simp
    have h1 : ((c :: t) == []) = false := rfl
    rw [h0, h1]
    unfold nameB
    rw [nmHit_any]
    by_cases hl : (c :: t).length ≤ 32
    · rw [decide_eq_false (show ¬ (((c :: t).length : Int) > 32) by omega), decide_eq_true (show 1 ≤ (c :: t).length ∧ (c :: t).length ≤ 32 from ⟨by simp, hl⟩), decide_eq_true (show (c :: t).length ≤ 1099511627776 by omega)]
      simp only [List.getD_cons_zero, List.any_cons, beq_self_eq_true, Bool.true_or, Bool.and_self, cond_true, cond_false, Bool.true_and]
      rw [← rDig_bad c]
      cases rDig c <;> cases oBad c <;> cases t.any oBad <;> rfl
    · rw [decide_eq_true (show (((c :: t).length : Int) > 32) by omega), decide_eq_false (show ¬ (1 ≤ (c :: t).length ∧ (c :: t).length ≤ 32) from fun h => hl h.2)]
      rfl
theorem rName_call (s : List UInt8) (hs : s.length ≤ 4611686018427387903) (k : Out → Ans) : iFun Tryd.prog (layB.hd Tryd.prog) layB.fhs 0 93 [.str s] [] k = k (.ret (.bool (nameB s)) []) := by
  rw [rName_fun, decide_eq_true hs]
  unfold nameB
  have e : cond (decide ((s.length : Int) ≥ 1)) (decide ((s.length : Int) ≤ 32)) false = decide (1 ≤ s.length ∧ s.length ≤ 32) := by
    by_cases h1 : 1 ≤ s.length
    · rw [decide_eq_true (show (s.length : Int) ≥ 1 by omega)]
      by_cases h2 : s.length ≤ 32
      · rw [decide_eq_true (show (s.length : Int) ≤ 32 by omega), decide_eq_true ⟨h1, h2⟩]; rfl
      · rw [decide_eq_false (show ¬ (s.length : Int) ≤ 32 by omega), decide_eq_false (show ¬ (1 ≤ s.length ∧ s.length ≤ 32) from fun h => h2 h.2)]; rfl
    · rw [decide_eq_false (show ¬ (s.length : Int) ≥ 1 by omega), decide_eq_false (show ¬ (1 ≤ s.length ∧ s.length ≤ 32) from fun h => h1 h.1)]; rfl
  rw [e]
  cases (List.range s.length).any (nmHit s) <;> cases decide (1 ≤ s.length ∧ s.length ≤ 32) <;> rfl
end Go.Mu
set_option linter.unusedVariables false
set_option linter.unusedSimpArgs false
set_option maxRecDepth 100000
namespace Go.Mu
open Go Go.Proofs

def wfStr (r : List AVal) : Bool := match r with
  | [.str s] => decide (s.length ≤ 1099511627776)
  | _ => false
theorem wfStr_sub (r : List AVal) (h : wfStr r = true) : SubL r (encS (decS r)) := by
  unfold wfStr at h
  split at h
  · exact .refl _
  · simp at h
structure ArgD where
  kind : Int
  name : List UInt8
  pf : Bool
  path : List (List UInt8)
  int : Int
  text : List UInt8
instance : Inhabited ArgD := ⟨⟨0, [], true, [], 0, []⟩⟩
def argD0 : ArgD := ⟨0, [], true, [], 0, []⟩
def encArg (a : ArgD) : List AVal := [.int .i64 a.kind, .str a.name, encL a.pf encS [] a.path, .int .i64 a.int, .str a.text]
def decArg (r : List AVal) : ArgD := ⟨intOf (r.getD 0 .undef), strOf (r.getD 1 .undef), fullOf (r.getD 2 .undef), decL decS (r.getD 2 .undef), intOf (r.getD 3 .undef), strOf (r.getD 4 .undef)⟩
def wfArg (r : List AVal) : Bool := match r with
  | [.int .i64 _, .str s, p, .int .i64 _, .str t] => wfL wfStr p && decide (lenL p ≤ 1099511627776) && decide (s.length ≤ 1099511627776) && decide (t.length ≤ 1099511627776)
  | _ => false
theorem wfArg_sub (r : List AVal) (h : wfArg r = true) : SubL r (encArg (decArg r)) := by
  unfold wfArg at h
  split at h
  · rename_i k s p n t
    simp only [Bool.and_eq_true] at h
    exact .cons (.refl _) (.cons (.refl _) (.cons (sub_encL h.1.1.1 wfStr_sub) (.cons (.refl _) (.cons (.refl _) .nil))))
  · simp at h
theorem decArg_enc (a : ArgD) : decArg (encArg a) = a := by
  cases a
  simp only [decArg, encArg, List.getD_cons_zero, List.getD_cons_succ, intOf, strOf, fullOf]
  rw [decL_encL (g := decS) (f := encS) (fun s => rfl)]
def okArg (a : ArgD) : Prop := a.path.length ≤ 1099511627776 ∧ (∀ s ∈ a.path, s.length ≤ 1099511627776) ∧ a.name.length ≤ 1099511627776 ∧ a.text.length ≤ 1099511627776
theorem wfL_of {α : Type} {w : List AVal → Bool} {f : α → List AVal} {d : α} {full : Bool} {l : List α} (h : ∀ a ∈ l, w (f a) = true) : wfL w (encL full f d l) = true := by
  simp only [wfL, List.all_eq_true, List.mem_range]
  intro i hi
  refine h _ ?_
  rw [List.getD_eq_getElem?_getD, List.getElem?_eq_getElem hi]
  exact List.getElem_mem hi
theorem wfArg_enc {a : ArgD} (h : okArg a) : wfArg (encArg a) = true := by
  obtain ⟨h1, h2, h3, h4⟩ := h
  simp only [wfArg, encArg, Bool.and_eq_true, decide_eq_true_eq]
  exact ⟨⟨⟨wfL_of (fun s hs => by simp only [wfStr, encS]; exact decide_eq_true (h2 s hs)), h1⟩, h3⟩, h4⟩

/- what is told so far -/
def oNameTold : FSp := fun xs H k => match xs, H with
  | [.str s], [] => k (.ret (.bool (nameB s)) [])
  | _, _ => none
def rNameTold : FSp := fun xs H k => match xs, H with
  | [.str s], [] => cond (decide (s.length ≤ 4611686018427387903)) (k (.ret (.bool (nameB s)) [])) none
  | _, _ => none
theorem oNameTold_ok (xs : List AVal) (H : Heap) (k : Out → Ans) (out : Out) (ho : oNameTold xs H k = some out) : ∃ o, CallOK Tryd.prog 169 xs H o ∧ k o = some out := by
  unfold oNameTold at ho
  split at ho
  · exact ⟨_, layB_ok.call (oName_call _), ho⟩
  · simp at ho
theorem rNameTold_ok (xs : List AVal) (H : Heap) (k : Out → Ans) (out : Out) (ho : rNameTold xs H k = some out) : ∃ o, CallOK Tryd.prog 93 xs H o ∧ k o = some out := by
  unfold rNameTold at ho
  split at ho
  · rw [Bool.cond_eq_ite] at ho
    split at ho
    · rename_i hs; exact ⟨_, layB_ok.call (rName_call _ (of_decide_eq_true hs)), ho⟩
    · simp at ho
  · simp at ho
def layC : Lay := (layB.addF 169 oNameTold).addF 93 rNameTold
theorem layC_ok : layC.OK Tryd.prog := (layB_ok.addF oNameTold_ok).addF rNameTold_ok

/- paths -/
def sIdxFH : FH := .of [(2, loopSpec 19 [0,1,7,8] [] [4] [] (idxSp wfStr decS (fun s => !nameB s) 168))]
theorem sIdx_step (full : Bool) (l : List (List UInt8)) (i : Nat) (H : Heap) (D : List (FuncId × List AVal)) (k : Kont) : lturn Tryd.prog layC sIdxFH 206 2 [0,1,7,8] [] [4] [] (stL 19 [0,1,7,8] [encL full encS [] l, .func 168 [], .int .i64 l.length, .int .i64 i] [] [] H D) k =
    cond (decide ((i : Int) < l.length)) (cond (decide ((i : Int) < l.length)) (cond (!nameB (l.getD (i : Int).toNat [])) (k .ret (stL 19 [4] [.int .i64 i] [] [] H D)) (k .normal (stL 19 [0,1,7,8] [encL full encS [] l, .func 168 [], .int .i64 l.length, .int .i64 (IntKind.i64.wrap ((i : Int) + 1))] [] [] H D))) none)
      (k (.exit 0) (stL 19 [4] [.undef] [] [] H D)) := by kernel_rfl
def layD : Lay := layC.addL 206 sIdxFH
theorem layD_ok : layD.OK Tryd.prog := layC_ok.loop1 (id := 2) (by kernel_rfl) (by kernel_rfl) (by kernel_rfl) (idxSp_ok (p := fun s => !nameB s) wfStr_sub sIdx_step)
def pBad (a : ArgD) : Bool := a.path.any (fun s => !nameB s)
def pArgT (a : ArgD) : Bool := cond (cond (cond (cond (cond (cond (decide (a.kind ≥ 1)) (decide (a.kind ≤ 7)) false) (cond (cond (a.kind == 2) (cond (a.name == []) true (nameB a.name)) false) true (a.name == [])) false) (cond (decide (a.kind ≤ 2)) true ((a.path.length : Int) == 0)) false)
   (cond (a.kind == 3) true (a.int == 0)) false) (cond (a.kind == 4) true (a.text == [])) false) (decide ((a.text.length : Int) ≤ 4096)) false
def argB (a : ArgD) : Bool := !pBad a && decide (a.path.length ≤ 16) && pArgT a
theorem pArg_fun (a : ArgD) (k : Out → Ans) : iFun Tryd.prog (layD.hd Tryd.prog) layD.fhs 0 108 [.agg (encArg a)] [] k =
    cond (wfL wfStr (encL a.pf encS [] a.path) && true && ((a.path.length : Int) == (a.path.length : Int)) && true && decide (a.path.length ≤ 1099511627776) && true)
      (cond ((decL decS (encL a.pf encS [] a.path)).any (fun s => !nameB s)) (k (.ret (.bool false) []))
        (cond (decide ((a.path.length : Int) > 16)) (k (.ret (.bool false) [])) (k (.ret (.bool (pArgT a)) [])))) none := by kernel_rfl
theorem pArg_call {a : ArgD} (h : okArg a) (k : Out → Ans) : iFun Tryd.prog (layD.hd Tryd.prog) layD.fhs 0 108 [.agg (encArg a)] [] k = k (.ret (.bool (argB a)) []) := by
  rw [pArg_fun, decL_encL (g := decS) (f := encS) (fun s => rfl), wfL_of (fun s hs => by simp only [wfStr, encS]; exact decide_eq_true (h.2.1 s hs)), decide_eq_true h.1]
  unfold argB pBad
  simp only [beq_self_eq_true, Bool.and_self, cond_true]
  cases a.path.any (fun s => !nameB s) with
  | true => rfl
  | false =>
    by_cases hl : a.path.length ≤ 16
    · rw [decide_eq_false (show ¬ ((a.path.length : Int) > 16) by omega), decide_eq_true hl]; rfl
    · rw [decide_eq_true (show (a.path.length : Int) > 16 by omega), decide_eq_false hl]; rfl
noncomputable def rArgSp : LSp := fun vs bs H k => match vs, bs with
  | [.ptr (.tmp 1) 0, .int .i64 z], [c] => cond (z == 0 && tst (c = encArg (decArg c) ∧ okArg (decArg c))) (cond (pBad (decArg c)) (k .ret [.ptr (.tmp 1) 0, .bool false] [c] H) (k (.exit 0) [.ptr (.tmp 1) 0, .undef] [c] H)) none
  | _, _ => none
noncomputable def rArgFH : FH := .of [(2, loopSpec 80 [1,3] [1] [1,2] [1] rArgSp)]
noncomputable abbrev rArgTurn := lturn Tryd.prog layD rArgFH 46 2 [1,3] [1] [1,2] [1]
theorem rArg_step (a : ArgD) (i : Nat) (H : Heap) (D : List (FuncId × List AVal)) (k : Kont) : rArgTurn (stL 80 [1,3] [.ptr (.tmp 1) 0, .int .i64 i] [1] [encArg a] H D) k =
    cond (decide ((i : Int) < a.path.length)) (cond (decide ((i : Int) < a.path.length)) (cond (decide ((a.path.getD (i : Int).toNat []).length ≤ 4611686018427387903))
      (cond (!nameB (a.path.getD (i : Int).toNat [])) (k .ret (stL 80 [1,2] [.ptr (.tmp 1) 0, .bool false] [1] [encArg a] H D)) (k .normal (stL 80 [1,3] [.ptr (.tmp 1) 0, .int .i64 (IntKind.i64.wrap ((i : Int) + 1))] [1] [encArg a] H D))) none) none)
      (k (.exit 0) (stL 80 [1,2] [.ptr (.tmp 1) 0, .undef] [1] [encArg a] H D)) := by kernel_rfl
theorem rArgSp_ok : SpOK rArgTurn 80 [1,3] [1] [1,2] [1] rArgSp := by
  intro vs bs H k out ho
  unfold rArgSp at ho
  split at ho
  case h_2 => simp at ho
  rename_i z c
  rw [Bool.cond_eq_ite] at ho
  split at ho
  case isFalse => simp at ho
  rename_i hc
  simp only [Bool.and_eq_true, beq_iff_eq] at hc
  obtain ⟨rfl, hc⟩ := hc
  obtain ⟨hce, hk⟩ := of_tst hc
  generalize decArg c = a at hce hk ho
  subst hce
  have hrun := fun D k => search_any (turn := rArgTurn) (S := fun i => stL 80 [1,3] [.ptr (.tmp 1) 0, .int .i64 (i : Nat)] [1] [encArg a] H D) (hit := fun i => !nameB (a.path.getD i [])) (n := a.path.length) (e0 := .exit 0) (e1 := .ret) (R0 := stL 80 [1,2] [.ptr (.tmp 1) 0, .undef] [1] [encArg a] H D) (R1 := stL 80 [1,2] [.ptr (.tmp 1) 0, .bool false] [1] [encArg a] H D)
    (fun i k hi => by
      have := hk.1
      rw [rArg_step, decide_eq_true (show (i : Int) < a.path.length by omega), wrap_add1 (by omega)]
      have h2 : (a.path.getD i []).length ≤ 4611686018427387903 := by
        have := hk.2.1 (a.path.getD i []) (by rw [List.getD_eq_getElem?_getD, List.getElem?_eq_getElem hi]; exact List.getElem_mem hi)
        omega
      rw [Int.toNat_natCast, decide_eq_true h2]; rfl) (fun k => by rw [rArg_step, decide_eq_false (by omega)]; rfl) (by simp) (by simp) k
  have ea : (List.range a.path.length).any (fun i => !nameB (a.path.getD i [])) = pBad a := any_getD (fun s => !nameB s) a.path []
  rw [ea] at hrun
  cases ha : pBad a with
  | true =>
    rw [ha] at ho
    exact ⟨_, _, _, _, _, _, .refl _, ⟨_, fun D k => (hrun D k).trans (by rw [ha]; rfl)⟩, .refl _, ho⟩
  | false =>
    rw [ha] at ho
    exact ⟨_, _, _, _, _, _, .refl _, ⟨_, fun D k => (hrun D k).trans (by rw [ha]; rfl)⟩, .refl _, ho⟩
noncomputable def layE : Lay := layD.addL 46 rArgFH
theorem layE_ok : layE.OK Tryd.prog := layD_ok.loop1 (id := 2) (by kernel_rfl) (by kernel_rfl) (by kernel_rfl) rArgSp_ok
theorem rArg_fun (a : ArgD) (k : Out → Ans) : iFun Tryd.prog (layE.hd Tryd.prog) layE.fhs 0 46 [.agg (encArg a)] [] k =
    cond (tst (encArg a = encArg (decArg (encArg a)) ∧ okArg (decArg (encArg a)))) (cond (pBad (decArg (encArg a))) (k (.ret (.bool false) []))
      (cond (cond (cond (cond (decide (a.kind < 1)) true (decide (a.kind > 7))) true (decide ((a.path.length : Int) > 16))) true (decide ((a.text.length : Int) > 4096))) (k (.ret (.bool false) []))
        (cond (cond (cond (cond (decide (a.kind > 2)) (decide ((a.path.length : Int) > 0)) false) true (cond (a.kind != 3) (a.int != 0) false)) true (cond (a.kind != 4) (!(a.text == [])) false)) (k (.ret (.bool false) []))
          (cond (decide (a.name.length ≤ 4611686018427387903)) (k (.ret (.bool (cond (a.name == []) true (cond (a.kind == 2) (nameB a.name) false))) [])) none)))) none := by kernel_rfl
theorem rArg_call {a : ArgD} (h : okArg a) (k : Out → Ans) : iFun Tryd.prog (layE.hd Tryd.prog) layE.fhs 0 46 [.agg (encArg a)] [] k = k (.ret (.bool (argB a)) []) := by
  have h3 := h.2.2.1
  rw [rArg_fun, decArg_enc, tst_true ⟨rfl, h⟩, decide_eq_true (show a.name.length ≤ 4611686018427387903 by omega)]
  unfold argB pArgT
  have e1 : decide ((a.path.length : Int) > 16) = !decide (a.path.length ≤ 16) := by rw [Bool.eq_iff_iff]; simp; omega
  have e2 : decide ((a.text.length : Int) > 4096) = !decide ((a.text.length : Int) ≤ 4096) := by rw [Bool.eq_iff_iff]; simp
  have e3 : decide ((a.path.length : Int) > 0) = !((a.path.length : Int) == 0) := by
    cases a.path.length with
    | zero => rfl
    | succ n => rw [decide_eq_true (show ((n + 1 : Nat) : Int) > 0 by omega), show (((n + 1 : Nat) : Int) == 0) = false from beq_false_of_ne (by omega)]; rfl
  have e4 : (a.int != 0) = !(a.int == 0) := rfl
  rw [e1, e2, e3, e4]
  generalize pBad a = b1
  generalize decide (a.path.length ≤ 16) = b2
  generalize decide ((a.text.length : Int) ≤ 4096) = b3
  generalize ((a.path.length : Int) == 0) = b4
  generalize (a.int == 0) = b5
  generalize (a.text == []) = b6
  generalize (a.name == []) = b7
  generalize nameB a.name = b8
  generalize a.kind = n
  by_cases l : n < 1
  · rw [decide_eq_true l, decide_eq_false (show ¬ n ≥ 1 by omega)]
    cases b1 <;> cases b2 <;> rfl
  · by_cases g : n > 7
    · rw [decide_eq_false l, decide_eq_true g, decide_eq_true (show n ≥ 1 by omega), decide_eq_false (show ¬ n ≤ 7 by omega)]
      cases b1 <;> cases b2 <;> rfl
    · have : n = 1 ∨ n = 2 ∨ n = 3 ∨ n = 4 ∨ n = 5 ∨ n = 6 ∨ n = 7 := by omega
      rcases this with rfl | rfl | rfl | rfl | rfl | rfl | rfl <;> cases b1 <;> cases b2 <;> cases b3 <;> cases b4 <;> cases b5 <;> cases b6 <;> cases b7 <;> cases b8 <;> rfl
end Go.Mu
set_option linter.unusedVariables false
set_option linter.unusedSimpArgs false
set_option maxRecDepth 100000
namespace Go.Mu
open Go Go.Proofs

def ar (s : List UInt8) : Int × Int × Bool := bif (s == [108, 101, 110]) || (s == [110, 111, 116]) || (s == [117, 112, 112, 101, 114]) || (s == [108, 111, 119, 101, 114]) then (1, 1, true) else bif (s == [101, 113]) || (s == [108, 116]) || (s == [97, 110, 100]) || (s == [111, 114]) || (s == [106, 111, 105, 110]) || (s == [100, 101, 102, 97, 117, 108, 116]) || (s == [105, 110, 100, 101, 120]) then (2, 2, true) else bif s == [112, 114, 105, 110, 116] then (1, 8, true) else (0, 0, false)
def arTree (s : List UInt8) (k : Out → Ans) : Ans :=
  bif s == [108, 101, 110] then
  bif s == [108, 101, 110] then k (Out.ret (AVal.tuple [AVal.int IntKind.i64 1, AVal.int IntKind.i64 1, AVal.bool true]) [])
  else
  bif s == [101, 113] then
  bif s == [101, 113] then k (Out.ret (AVal.tuple [AVal.int IntKind.i64 2, AVal.int IntKind.i64 2, AVal.bool true]) [])
  else
  bif s == [112, 114, 105, 110, 116] then k (Out.ret (AVal.tuple [AVal.int IntKind.i64 1, AVal.int IntKind.i64 8, AVal.bool true]) [])
  else k (Out.ret (AVal.tuple [AVal.int IntKind.i64 0, AVal.int IntKind.i64 0, AVal.bool false]) [])
  else
  bif s == [108, 116] then
  bif s == [108, 116] then k (Out.ret (AVal.tuple [AVal.int IntKind.i64 2, AVal.int IntKind.i64 2, AVal.bool true]) [])
  else
  bif s == [112, 114, 105, 110, 116] then k (Out.ret (AVal.tuple [AVal.int IntKind.i64 1, AVal.int IntKind.i64 8, AVal.bool true]) [])
  else k (Out.ret (AVal.tuple [AVal.int IntKind.i64 0, AVal.int IntKind.i64 0, AVal.bool false]) [])
  else
  bif s == [97, 110, 100] then
  bif s == [97, 110, 100] then k (Out.ret (AVal.tuple [AVal.int IntKind.i64 2, AVal.int IntKind.i64 2, AVal.bool true]) [])
  else
  bif s == [112, 114, 105, 110, 116] then k (Out.ret (AVal.tuple [AVal.int IntKind.i64 1, AVal.int IntKind.i64 8, AVal.bool true]) [])
  else k (Out.ret (AVal.tuple [AVal.int IntKind.i64 0, AVal.int IntKind.i64 0, AVal.bool false]) [])
  else
  bif s == [111, 114] then
  bif s == [111, 114] then k (Out.ret (AVal.tuple [AVal.int IntKind.i64 2, AVal.int IntKind.i64 2, AVal.bool true]) [])
  else
  bif s == [112, 114, 105, 110, 116] then k (Out.ret (AVal.tuple [AVal.int IntKind.i64 1, AVal.int IntKind.i64 8, AVal.bool true]) [])
  else k (Out.ret (AVal.tuple [AVal.int IntKind.i64 0, AVal.int IntKind.i64 0, AVal.bool false]) [])
  else
  bif s == [106, 111, 105, 110] then
  bif s == [106, 111, 105, 110] then k (Out.ret (AVal.tuple [AVal.int IntKind.i64 2, AVal.int IntKind.i64 2, AVal.bool true]) [])
  else
  bif s == [112, 114, 105, 110, 116] then k (Out.ret (AVal.tuple [AVal.int IntKind.i64 1, AVal.int IntKind.i64 8, AVal.bool true]) [])
  else k (Out.ret (AVal.tuple [AVal.int IntKind.i64 0, AVal.int IntKind.i64 0, AVal.bool false]) [])
  else
  bif s == [100, 101, 102, 97, 117, 108, 116] then
  bif s == [100, 101, 102, 97, 117, 108, 116] then k (Out.ret (AVal.tuple [AVal.int IntKind.i64 2, AVal.int IntKind.i64 2, AVal.bool true]) [])
  else
  bif s == [112, 114, 105, 110, 116] then k (Out.ret (AVal.tuple [AVal.int IntKind.i64 1, AVal.int IntKind.i64 8, AVal.bool true]) [])
  else k (Out.ret (AVal.tuple [AVal.int IntKind.i64 0, AVal.int IntKind.i64 0, AVal.bool false]) [])
  else
  bif s == [105, 110, 100, 101, 120] then k (Out.ret (AVal.tuple [AVal.int IntKind.i64 2, AVal.int IntKind.i64 2, AVal.bool true]) [])
  else
  bif s == [112, 114, 105, 110, 116] then k (Out.ret (AVal.tuple [AVal.int IntKind.i64 1, AVal.int IntKind.i64 8, AVal.bool true]) [])
  else k (Out.ret (AVal.tuple [AVal.int IntKind.i64 0, AVal.int IntKind.i64 0, AVal.bool false]) [])
  else
  bif s == [110, 111, 116] then
  bif s == [110, 111, 116] then k (Out.ret (AVal.tuple [AVal.int IntKind.i64 1, AVal.int IntKind.i64 1, AVal.bool true]) [])
  else
  bif s == [101, 113] then
  bif s == [101, 113] then k (Out.ret (AVal.tuple [AVal.int IntKind.i64 2, AVal.int IntKind.i64 2, AVal.bool true]) [])
  else
  bif s == [112, 114, 105, 110, 116] then k (Out.ret (AVal.tuple [AVal.int IntKind.i64 1, AVal.int IntKind.i64 8, AVal.bool true]) [])
  else k (Out.ret (AVal.tuple [AVal.int IntKind.i64 0, AVal.int IntKind.i64 0, AVal.bool false]) [])
  else
  bif s == [108, 116] then
  bif s == [108, 116] then k (Out.ret (AVal.tuple [AVal.int IntKind.i64 2, AVal.int IntKind.i64 2, AVal.bool true]) [])
  else
  bif s == [112, 114, 105, 110, 116] then k (Out.ret (AVal.tuple [AVal.int IntKind.i64 1, AVal.int IntKind.i64 8, AVal.bool true]) [])
  else k (Out.ret (AVal.tuple [AVal.int IntKind.i64 0, AVal.int IntKind.i64 0, AVal.bool false]) [])
  else
  bif s == [97, 110, 100] then
  bif s == [97, 110, 100] then k (Out.ret (AVal.tuple [AVal.int IntKind.i64 2, AVal.int IntKind.i64 2, AVal.bool true]) [])
  else
  bif s == [112, 114, 105, 110, 116] then k (Out.ret (AVal.tuple [AVal.int IntKind.i64 1, AVal.int IntKind.i64 8, AVal.bool true]) [])
  else k (Out.ret (AVal.tuple [AVal.int IntKind.i64 0, AVal.int IntKind.i64 0, AVal.bool false]) [])
  else
  bif s == [111, 114] then
  bif s == [111, 114] then k (Out.ret (AVal.tuple [AVal.int IntKind.i64 2, AVal.int IntKind.i64 2, AVal.bool true]) [])
  else
  bif s == [112, 114, 105, 110, 116] then k (Out.ret (AVal.tuple [AVal.int IntKind.i64 1, AVal.int IntKind.i64 8, AVal.bool true]) [])
  else k (Out.ret (AVal.tuple [AVal.int IntKind.i64 0, AVal.int IntKind.i64 0, AVal.bool false]) [])
  else
  bif s == [106, 111, 105, 110] then
  bif s == [106, 111, 105, 110] then k (Out.ret (AVal.tuple [AVal.int IntKind.i64 2, AVal.int IntKind.i64 2, AVal.bool true]) [])
  else
  bif s == [112, 114, 105, 110, 116] then k (Out.ret (AVal.tuple [AVal.int IntKind.i64 1, AVal.int IntKind.i64 8, AVal.bool true]) [])
  else k (Out.ret (AVal.tuple [AVal.int IntKind.i64 0, AVal.int IntKind.i64 0, AVal.bool false]) [])
  else
  bif s == [100, 101, 102, 97, 117, 108, 116] then
  bif s == [100, 101, 102, 97, 117, 108, 116] then k (Out.ret (AVal.tuple [AVal.int IntKind.i64 2, AVal.int IntKind.i64 2, AVal.bool true]) [])
  else
  bif s == [112, 114, 105, 110, 116] then k (Out.ret (AVal.tuple [AVal.int IntKind.i64 1, AVal.int IntKind.i64 8, AVal.bool true]) [])
  else k (Out.ret (AVal.tuple [AVal.int IntKind.i64 0, AVal.int IntKind.i64 0, AVal.bool false]) [])
  else
  bif s == [105, 110, 100, 101, 120] then k (Out.ret (AVal.tuple [AVal.int IntKind.i64 2, AVal.int IntKind.i64 2, AVal.bool true]) [])
  else
  bif s == [112, 114, 105, 110, 116] then k (Out.ret (AVal.tuple [AVal.int IntKind.i64 1, AVal.int IntKind.i64 8, AVal.bool true]) [])
  else k (Out.ret (AVal.tuple [AVal.int IntKind.i64 0, AVal.int IntKind.i64 0, AVal.bool false]) [])
  else
  bif s == [117, 112, 112, 101, 114] then
  bif s == [117, 112, 112, 101, 114] then k (Out.ret (AVal.tuple [AVal.int IntKind.i64 1, AVal.int IntKind.i64 1, AVal.bool true]) [])
  else
  bif s == [101, 113] then
  bif s == [101, 113] then k (Out.ret (AVal.tuple [AVal.int IntKind.i64 2, AVal.int IntKind.i64 2, AVal.bool true]) [])
  else
  bif s == [112, 114, 105, 110, 116] then k (Out.ret (AVal.tuple [AVal.int IntKind.i64 1, AVal.int IntKind.i64 8, AVal.bool true]) [])
  else k (Out.ret (AVal.tuple [AVal.int IntKind.i64 0, AVal.int IntKind.i64 0, AVal.bool false]) [])
  else
  bif s == [108, 116] then
  bif s == [108, 116] then k (Out.ret (AVal.tuple [AVal.int IntKind.i64 2, AVal.int IntKind.i64 2, AVal.bool true]) [])
  else
  bif s == [112, 114, 105, 110, 116] then k (Out.ret (AVal.tuple [AVal.int IntKind.i64 1, AVal.int IntKind.i64 8, AVal.bool true]) [])
  else k (Out.ret (AVal.tuple [AVal.int IntKind.i64 0, AVal.int IntKind.i64 0, AVal.bool false]) [])
  else
  bif s == [97, 110, 100] then
  bif s == [97, 110, 100] then k (Out.ret (AVal.tuple [AVal.int IntKind.i64 2, AVal.int IntKind.i64 2, AVal.bool true]) [])
  else
  bif s == [112, 114, 105, 110, 116] then k (Out.ret (AVal.tuple [AVal.int IntKind.i64 1, AVal.int IntKind.i64 8, AVal.bool true]) [])
  else k (Out.ret (AVal.tuple [AVal.int IntKind.i64 0, AVal.int IntKind.i64 0, AVal.bool false]) [])
  else
  bif s == [111, 114] then
  bif s == [111, 114] then k (Out.ret (AVal.tuple [AVal.int IntKind.i64 2, AVal.int IntKind.i64 2, AVal.bool true]) [])
  else
  bif s == [112, 114, 105, 110, 116] then k (Out.ret (AVal.tuple [AVal.int IntKind.i64 1, AVal.int IntKind.i64 8, AVal.bool true]) [])
  else k (Out.ret (AVal.tuple [AVal.int IntKind.i64 0, AVal.int IntKind.i64 0, AVal.bool false]) [])
  else
  bif s == [106, 111, 105, 110] then
  bif s == [106, 111, 105, 110] then k (Out.ret (AVal.tuple [AVal.int IntKind.i64 2, AVal.int IntKind.i64 2, AVal.bool true]) [])
  else
  bif s == [112, 114, 105, 110, 116] then k (Out.ret (AVal.tuple [AVal.int IntKind.i64 1, AVal.int IntKind.i64 8, AVal.bool true]) [])
  else k (Out.ret (AVal.tuple [AVal.int IntKind.i64 0, AVal.int IntKind.i64 0, AVal.bool false]) [])
  else
  bif s == [100, 101, 102, 97, 117, 108, 116] then
  bif s == [100, 101, 102, 97, 117, 108, 116] then k (Out.ret (AVal.tuple [AVal.int IntKind.i64 2, AVal.int IntKind.i64 2, AVal.bool true]) [])
  else
  bif s == [112, 114, 105, 110, 116] then k (Out.ret (AVal.tuple [AVal.int IntKind.i64 1, AVal.int IntKind.i64 8, AVal.bool true]) [])
  else k (Out.ret (AVal.tuple [AVal.int IntKind.i64 0, AVal.int IntKind.i64 0, AVal.bool false]) [])
  else
  bif s == [105, 110, 100, 101, 120] then k (Out.ret (AVal.tuple [AVal.int IntKind.i64 2, AVal.int IntKind.i64 2, AVal.bool true]) [])
  else
  bif s == [112, 114, 105, 110, 116] then k (Out.ret (AVal.tuple [AVal.int IntKind.i64 1, AVal.int IntKind.i64 8, AVal.bool true]) [])
  else k (Out.ret (AVal.tuple [AVal.int IntKind.i64 0, AVal.int IntKind.i64 0, AVal.bool false]) [])
  else
  bif s == [108, 111, 119, 101, 114] then k (Out.ret (AVal.tuple [AVal.int IntKind.i64 1, AVal.int IntKind.i64 1, AVal.bool true]) [])
  else
  bif s == [101, 113] then
  bif s == [101, 113] then k (Out.ret (AVal.tuple [AVal.int IntKind.i64 2, AVal.int IntKind.i64 2, AVal.bool true]) [])
  else
  bif s == [112, 114, 105, 110, 116] then k (Out.ret (AVal.tuple [AVal.int IntKind.i64 1, AVal.int IntKind.i64 8, AVal.bool true]) [])
  else k (Out.ret (AVal.tuple [AVal.int IntKind.i64 0, AVal.int IntKind.i64 0, AVal.bool false]) [])
  else
  bif s == [108, 116] then
  bif s == [108, 116] then k (Out.ret (AVal.tuple [AVal.int IntKind.i64 2, AVal.int IntKind.i64 2, AVal.bool true]) [])
  else
  bif s == [112, 114, 105, 110, 116] then k (Out.ret (AVal.tuple [AVal.int IntKind.i64 1, AVal.int IntKind.i64 8, AVal.bool true]) [])
  else k (Out.ret (AVal.tuple [AVal.int IntKind.i64 0, AVal.int IntKind.i64 0, AVal.bool false]) [])
  else
  bif s == [97, 110, 100] then
  bif s == [97, 110, 100] then k (Out.ret (AVal.tuple [AVal.int IntKind.i64 2, AVal.int IntKind.i64 2, AVal.bool true]) [])
  else
  bif s == [112, 114, 105, 110, 116] then k (Out.ret (AVal.tuple [AVal.int IntKind.i64 1, AVal.int IntKind.i64 8, AVal.bool true]) [])
  else k (Out.ret (AVal.tuple [AVal.int IntKind.i64 0, AVal.int IntKind.i64 0, AVal.bool false]) [])
  else
  bif s == [111, 114] then
  bif s == [111, 114] then k (Out.ret (AVal.tuple [AVal.int IntKind.i64 2, AVal.int IntKind.i64 2, AVal.bool true]) [])
  else
  bif s == [112, 114, 105, 110, 116] then k (Out.ret (AVal.tuple [AVal.int IntKind.i64 1, AVal.int IntKind.i64 8, AVal.bool true]) [])
  else k (Out.ret (AVal.tuple [AVal.int IntKind.i64 0, AVal.int IntKind.i64 0, AVal.bool false]) [])
  else
  bif s == [106, 111, 105, 110] then
  bif s == [106, 111, 105, 110] then k (Out.ret (AVal.tuple [AVal.int IntKind.i64 2, AVal.int IntKind.i64 2, AVal.bool true]) [])
  else
  bif s == [112, 114, 105, 110, 116] then k (Out.ret (AVal.tuple [AVal.int IntKind.i64 1, AVal.int IntKind.i64 8, AVal.bool true]) [])
  else k (Out.ret (AVal.tuple [AVal.int IntKind.i64 0, AVal.int IntKind.i64 0, AVal.bool false]) [])
  else
  bif s == [100, 101, 102, 97, 117, 108, 116] then
  bif s == [100, 101, 102, 97, 117, 108, 116] then k (Out.ret (AVal.tuple [AVal.int IntKind.i64 2, AVal.int IntKind.i64 2, AVal.bool true]) [])
  else
  bif s == [112, 114, 105, 110, 116] then k (Out.ret (AVal.tuple [AVal.int IntKind.i64 1, AVal.int IntKind.i64 8, AVal.bool true]) [])
  else k (Out.ret (AVal.tuple [AVal.int IntKind.i64 0, AVal.int IntKind.i64 0, AVal.bool false]) [])
  else
  bif s == [105, 110, 100, 101, 120] then k (Out.ret (AVal.tuple [AVal.int IntKind.i64 2, AVal.int IntKind.i64 2, AVal.bool true]) [])
  else
  bif s == [112, 114, 105, 110, 116] then k (Out.ret (AVal.tuple [AVal.int IntKind.i64 1, AVal.int IntKind.i64 8, AVal.bool true]) [])
  else k (Out.ret (AVal.tuple [AVal.int IntKind.i64 0, AVal.int IntKind.i64 0, AVal.bool false]) [])
theorem arTree_eq (s : List UInt8) (k : Out → Ans) : arTree s k = k (.ret (.tuple [.int .i64 (ar s).1, .int .i64 (ar s).2.1, .bool (ar s).2.2]) []) := by
  unfold arTree ar
  generalize (s == [108, 101, 110]) = b0
  generalize (s == [110, 111, 116]) = b1
  generalize (s == [117, 112, 112, 101, 114]) = b2
  generalize (s == [108, 111, 119, 101, 114]) = b3
  generalize (s == [101, 113]) = b4
  generalize (s == [108, 116]) = b5
  generalize (s == [97, 110, 100]) = b6
  generalize (s == [111, 114]) = b7
  generalize (s == [106, 111, 105, 110]) = b8
  generalize (s == [100, 101, 102, 97, 117, 108, 116]) = b9
  generalize (s == [105, 110, 100, 101, 120]) = b10
  generalize (s == [112, 114, 105, 110, 116]) = b11
  cases b0 with | true => rfl | false => (cases b1 with | true => rfl | false => (cases b2 with | true => rfl | false => (cases b3 with | true => rfl | false => (cases b4 with | true => rfl | false => (cases b5 with | true => rfl | false => (cases b6 with | true => rfl | false => (cases b7 with | true => rfl | false => (cases b8 with | true => rfl | false => (cases b9 with | true => rfl | false => (cases b10 with | true => rfl | false => (cases b11 with | true => rfl | false => (rfl))))))))))))
theorem pArity_fun (s : List UInt8) (k : Out → Ans) : iFun Tryd.prog (layE.hd Tryd.prog) layE.fhs 0 79 [.str s] [] k = arTree s k := by kernel_rfl
theorem pArity_call (s : List UInt8) (k : Out → Ans) : iFun Tryd.prog (layE.hd Tryd.prog) layE.fhs 0 79 [.str s] [] k = k (.ret (.tuple [.int .i64 (ar s).1, .int .i64 (ar s).2.1, .bool (ar s).2.2]) []) := by
  rw [pArity_fun, arTree_eq]
theorem rArity_fun (s : List UInt8) (k : Out → Ans) : iFun Tryd.prog (layE.hd Tryd.prog) layE.fhs 0 47 [.str s] [] k = arTree s k := by kernel_rfl
theorem rArity_call (s : List UInt8) (k : Out → Ans) : iFun Tryd.prog (layE.hd Tryd.prog) layE.fhs 0 47 [.str s] [] k = k (.ret (.tuple [.int .i64 (ar s).1, .int .i64 (ar s).2.1, .bool (ar s).2.2]) []) := by
  rw [rArity_fun, arTree_eq]
def arTold : FSp := fun xs H k => match xs, H with
  | [.str s], [] => k (.ret (.tuple [.int .i64 (ar s).1, .int .i64 (ar s).2.1, .bool (ar s).2.2]) [])
  | _, _ => none
theorem pArTold_ok (xs : List AVal) (H : Heap) (k : Out → Ans) (out : Out) (ho : arTold xs H k = some out) : ∃ o, CallOK Tryd.prog 79 xs H o ∧ k o = some out := by
  unfold arTold at ho
  split at ho
  · exact ⟨_, layE_ok.call (pArity_call _), ho⟩
  · simp at ho
theorem rArTold_ok (xs : List AVal) (H : Heap) (k : Out → Ans) (out : Out) (ho : arTold xs H k = some out) : ∃ o, CallOK Tryd.prog 47 xs H o ∧ k o = some out := by
  unfold arTold at ho
  split at ho
  · exact ⟨_, layE_ok.call (rArity_call _), ho⟩
  · simp at ho
noncomputable def argTold : FSp := fun xs H k => match xs, H with
  | [.agg c], [] => cond (tst (c = encArg (decArg c) ∧ okArg (decArg c))) (k (.ret (.bool (argB (decArg c))) [])) none
  | _, _ => none
theorem pArgTold_ok (xs : List AVal) (H : Heap) (k : Out → Ans) (out : Out) (ho : argTold xs H k = some out) : ∃ o, CallOK Tryd.prog 108 xs H o ∧ k o = some out := by
  unfold argTold at ho
  split at ho
  · rename_i c
    rw [Bool.cond_eq_ite] at ho
    split at ho
    · rename_i hc
      obtain ⟨h1, h2⟩ := of_tst hc
      generalize decArg c = a at h1 h2 ho
      subst h1
      exact ⟨_, layD_ok.call (pArg_call h2), ho⟩
    · simp at ho
  · simp at ho
theorem rArgTold_ok (xs : List AVal) (H : Heap) (k : Out → Ans) (out : Out) (ho : argTold xs H k = some out) : ∃ o, CallOK Tryd.prog 46 xs H o ∧ k o = some out := by
  unfold argTold at ho
  split at ho
  · rename_i c
    rw [Bool.cond_eq_ite] at ho
    split at ho
    · rename_i hc
      obtain ⟨h1, h2⟩ := of_tst hc
      generalize decArg c = a at h1 h2 ho
      subst h1
      exact ⟨_, layE_ok.call (rArg_call h2), ho⟩
    · simp at ho
  · simp at ho
noncomputable def layF : Lay := (((layE.addF 79 arTold).addF 47 arTold).addF 108 argTold).addF 46 argTold
theorem layF_ok : layF.OK Tryd.prog := (((layE_ok.addF pArTold_ok).addF rArTold_ok).addF pArgTold_ok).addF rArgTold_ok

structure CallD where
  name : List UInt8
  af : Bool
  args : List ArgD
def callD0 : CallD := ⟨[], true, []⟩
def encCall (c : CallD) : List AVal := [.str c.name, encL c.af encArg argD0 c.args]
def decCall (r : List AVal) : CallD := ⟨strOf (r.getD 0 .undef), fullOf (r.getD 1 .undef), decL decArg (r.getD 1 .undef)⟩
def okCall (c : CallD) : Prop := c.args.length ≤ 1099511627776 ∧ (∀ a ∈ c.args, okArg a) ∧ c.name.length ≤ 1099511627776
theorem decCall_enc (c : CallD) : decCall (encCall c) = c := by
  cases c
  simp only [decCall, encCall, List.getD_cons_zero, List.getD_cons_succ, strOf, fullOf]
  rw [decL_encL (g := decArg) (f := encArg) decArg_enc]
theorem okArg_of {r : List AVal} (h : wfArg r = true) : okArg (decArg r) := by
  unfold wfArg at h
  split at h
  · rename_i k s p n t
    simp only [Bool.and_eq_true, decide_eq_true_eq] at h
    obtain ⟨⟨⟨h1, h2⟩, h3⟩, h4⟩ := h
    refine ⟨by rw [show (decArg [.int .i64 k, .str s, p, .int .i64 n, .str t]).path = decL decS p from rfl, lenL_decL h1]; exact h2, fun x hx => ?_, h3, h4⟩
    have hx' : x ∈ decL decS p := hx
    cases p <;> simp only [wfL, Bool.false_eq_true] at h1
    rename_i full m row
    simp only [decL, List.mem_map, List.mem_range] at hx'
    obtain ⟨i, hi, rfl⟩ := hx'
    have := List.all_eq_true.1 h1 i (by simpa using hi)
    unfold wfStr at this
    split at this
    · rename_i e; rw [e]; simpa [decS, strOf] using this
    · simp at this
  · simp at h
theorem mem_decL {α : Type} {w : List AVal → Bool} {g : List AVal → α} {x : AVal} (hx : wfL w x = true) {a : α} (ha : a ∈ decL g x) : ∃ r, w r = true ∧ a = g r := by
  cases x <;> simp only [wfL, Bool.false_eq_true] at hx
  rename_i full m row
  simp only [decL, List.mem_map, List.mem_range] at ha
  obtain ⟨i, hi, rfl⟩ := ha
  exact ⟨row i, List.all_eq_true.1 hx i (by simpa using hi), rfl⟩
theorem getD_ok {α : Type} {p : α → Prop} {l : List α} {d : α} (h : ∀ a ∈ l, p a) {i : Nat} (hi : i < l.length) : p (l.getD i d) := by
  refine h _ ?_
  rw [List.getD_eq_getElem?_getD, List.getElem?_eq_getElem hi]
  exact List.getElem_mem hi
/- the arguments of a call, searched -/
def aIdxFH : FH := .of [(2, loopSpec 19 [0,1,7,8] [] [4] [] (idxSp wfArg decArg (fun a => !argB a) 107))]
noncomputable abbrev aIdxTurn := lturn Tryd.prog layF aIdxFH 166 2 [0,1,7,8] [] [4] []
abbrev aIdxSt (full : Bool) (l : List ArgD) (i : Int) (H : Heap) (D : List (FuncId × List AVal)) : St := stL 19 [0,1,7,8] [encL full encArg argD0 l, .func 107 [], .int .i64 l.length, .int .i64 i] [] [] H D
theorem aIdx_step0 (full : Bool) (l : List ArgD) (i : Nat) (H : Heap) (D : List (FuncId × List AVal)) (k : Kont) : aIdxTurn (aIdxSt full l i H D) k =
    cond (decide ((i : Int) < l.length)) (cond (decide ((i : Int) < l.length)) (cond (tst (encArg (l.getD (i : Int).toNat argD0) = encArg (decArg (encArg (l.getD (i : Int).toNat argD0))) ∧ okArg (decArg (encArg (l.getD (i : Int).toNat argD0)))))
      (cond (!argB (decArg (encArg (l.getD (i : Int).toNat argD0)))) (k .ret (stL 19 [4] [.int .i64 i] [] [] H D)) (k .normal (aIdxSt full l (IntKind.i64.wrap ((i : Int) + 1)) H D))) none) none)
      (k (.exit 0) (stL 19 [4] [.undef] [] [] H D)) := by kernel_rfl
theorem idxSp_ok2 {α : Type} {ok : α → Prop} {w : List AVal → Bool} {g : List AVal → α} {f : α → List AVal} {d : α} {p : α → Bool} {cl : FuncId} {turn : St → Kont → Ans} (hw : ∀ r, w r = true → SubL r (f (g r))) (hok : ∀ r, w r = true → ok (g r))
    (h1 : ∀ (full : Bool) (l : List α) (i : Nat) (H : Heap) (D : List (FuncId × List AVal)) (k : Kont), (∀ a ∈ l, ok a) → i < l.length → l.length ≤ 1099511627776 → turn (stL 19 [0,1,7,8] [encL full f d l, .func cl [], .int .i64 l.length, .int .i64 i] [] [] H D) k =
      cond (p (l.getD i d)) (k .ret (stL 19 [4] [.int .i64 i] [] [] H D)) (k .normal (stL 19 [0,1,7,8] [encL full f d l, .func cl [], .int .i64 l.length, .int .i64 ((i + 1 : Nat) : Int)] [] [] H D)))
    (h0 : ∀ (full : Bool) (l : List α) (H : Heap) (D : List (FuncId × List AVal)) (k : Kont), turn (stL 19 [0,1,7,8] [encL full f d l, .func cl [], .int .i64 l.length, .int .i64 l.length] [] [] H D) k = k (.exit 0) (stL 19 [4] [.undef] [] [] H D)) :
    SpOK turn 19 [0,1,7,8] [] [4] [] (idxSp w g p cl) := by
  intro vs bs H k out ho
  unfold idxSp at ho
  split at ho
  case h_2 => simp at ho
  rename_i x c n z
  rw [Bool.cond_eq_ite] at ho
  split at ho
  case isFalse => simp at ho
  rename_i hc
  simp only [Bool.and_eq_true, beq_iff_eq, decide_eq_true_eq, List.isEmpty_iff] at hc
  obtain ⟨⟨⟨⟨⟨hx, rfl⟩, rfl⟩, rfl⟩, hn⟩, rfl⟩ := hc
  rw [← lenL_decL (g := g) hx] at hn ⊢
  have hall : ∀ a ∈ decL g x, ok a := fun a ha => by
    obtain ⟨r, h1, rfl⟩ := mem_decL hx ha
    exact hok r h1
  generalize hl : decL g x = l at ho hn hall ⊢
  have hs : SubT x (encL (fullOf x) f d l) := by rw [← hl]; exact subT_encL hx hw
  have hrun : ∀ D k, rounds turn (l.length + 1) (stL 19 [0,1,7,8] [encL (fullOf x) f d l, .func c [], .int .i64 l.length, .int .i64 0] [] [] H D) k = cond (l.any p) (k .ret (stL 19 [4] [.int .i64 (l.findIdx p : Nat)] [] [] H D)) (k (.exit 0) (stL 19 [4] [.undef] [] [] H D)) := by
    intro D k
    have := search_find (turn := turn) (S := fun i => stL 19 [0,1,7,8] [encL (fullOf x) f d l, .func c [], .int .i64 l.length, .int .i64 (i : Nat)] [] [] H D) (hit := fun i => p (l.getD i d)) (n := l.length) (e0 := .exit 0) (e1 := .ret)
      (R0 := stL 19 [4] [.undef] [] [] H D) (R1 := fun i => stL 19 [4] [.int .i64 (i : Nat)] [] [] H D) (fun i k hi => h1 _ _ _ _ _ _ hall hi hn) (fun k => h0 _ _ _ _ _) (by simp) (by simp) k
    rw [find_getD] at this
    refine Eq.trans this ?_
    cases l.any p <;> rfl
  cases ha : l.any p with
  | true =>
    rw [ha] at ho
    exact ⟨_, _, _, _, _, _, .cons hs (.refl _), ⟨_, fun D k => by rw [hrun, ha]; rfl⟩, .refl _, ho⟩
  | false =>
    rw [ha] at ho
    exact ⟨_, _, _, _, _, _, .cons hs (.refl _), ⟨_, fun D k => by rw [hrun, ha]; rfl⟩, .refl _, ho⟩
theorem aIdx_ok : SpOK aIdxTurn 19 [0,1,7,8] [] [4] [] (idxSp wfArg decArg (fun a => !argB a) 107) :=
  idxSp_ok2 (ok := okArg) (d := argD0) (f := encArg) wfArg_sub (fun r h => okArg_of h) (fun full l i H D k hl hi hn => by
    rw [aIdx_step0, decide_eq_true (show (i : Int) < l.length by omega), wrap_add1 (by omega), decArg_enc, Int.toNat_natCast, tst_true ⟨rfl, getD_ok hl hi⟩]; rfl)
    (fun full l H D k => by rw [aIdx_step0, decide_eq_false (by omega)]; rfl)
noncomputable def layG : Lay := layF.addL 166 aIdxFH
theorem layG_ok : layG.OK Tryd.prog := layF_ok.loop1 (id := 2) (by kernel_rfl) (by kernel_rfl) (by kernel_rfl) aIdx_ok
end Go.Mu
set_option linter.unusedVariables false
set_option linter.unusedSimpArgs false
set_option maxRecDepth 100000
namespace Go.Mu
open Go Go.Proofs
theorem condF (x y : Bool) : cond x y false = (x && y) := by cases x <;> rfl
def cBad (c : CallD) : Bool := c.args.any (fun a => !argB a)
def cCnt (c : CallD) (b : Bool) : Int := cond b ((c.args.length : Int) + 1) c.args.length
def callB (c : CallD) (b : Bool) : Bool := !cBad c && cond (c.name == []) (!b && ((c.args.length : Int) == 1)) ((ar c.name).2.2 && decide ((ar c.name).1 ≤ cCnt c b) && decide (cCnt c b ≤ (ar c.name).2.1))
theorem pCall_fun (c : CallD) (b : Bool) (k : Out → Ans) : iFun Tryd.prog (layG.hd Tryd.prog) layG.fhs 0 55 [.agg (encCall c), .bool b] [] k =
    cond (wfL wfArg (encL c.af encArg argD0 c.args) && true && ((c.args.length : Int) == (lenL (encL c.af encArg argD0 c.args) : Int)) && true && decide (lenL (encL c.af encArg argD0 c.args) ≤ 1099511627776) && true)
      (cond ((decL decArg (encL c.af encArg argD0 c.args)).any (fun a => !argB a)) (k (.ret (.bool false) []))
        (cond (c.name == []) (k (.ret (.bool (cond (!b) ((c.args.length : Int) == 1) false)) []))
          (cond b (k (.ret (.bool (cond (cond (ar c.name).2.2 (decide (IntKind.i64.wrap ((c.args.length : Int) + 1) ≥ (ar c.name).1)) false) (decide (IntKind.i64.wrap ((c.args.length : Int) + 1) ≤ (ar c.name).2.1)) false)) []))
            (k (.ret (.bool (cond (cond (ar c.name).2.2 (decide ((c.args.length : Int) ≥ (ar c.name).1)) false) (decide ((c.args.length : Int) ≤ (ar c.name).2.1)) false)) []))))) none := by kernel_rfl
theorem pCall_call {c : CallD} (h : okCall c) (b : Bool) (k : Out → Ans) : iFun Tryd.prog (layG.hd Tryd.prog) layG.fhs 0 55 [.agg (encCall c), .bool b] [] k = k (.ret (.bool (callB c b)) []) := by
  have hl := h.1
  rw [pCall_fun, decL_encL (g := decArg) decArg_enc, wfL_of (fun a ha => wfArg_enc (h.2.1 a ha)), wrap_add1 (by omega), show decide (lenL (encL c.af encArg argD0 c.args) ≤ 1099511627776) = true from decide_eq_true hl, show lenL (encL c.af encArg argD0 c.args) = c.args.length from rfl]
  simp only [beq_self_eq_true, Bool.and_self, cond_true]
  unfold callB cCnt
  rw [show c.args.any (fun a => !argB a) = cBad c from rfl]
  generalize cBad c = b1
  generalize (c.name == []) = b2
  generalize (ar c.name).2.2 = b3
  have e : (((c.args.length + 1 : Nat) : Int)) = (c.args.length : Int) + 1 := by omega
  rw [e]
  simp only [ge_iff_le]
  cases b1 <;> cases b2 <;> cases b3 <;> cases b <;> simp only [cond_true, cond_false, condF, Bool.not_true, Bool.not_false, Bool.true_and, Bool.false_and]
noncomputable def callTold : FSp := fun xs H k => match xs, H with
  | [.agg c, .bool b], [] => cond (tst (c = encCall (decCall c) ∧ okCall (decCall c))) (k (.ret (.bool (callB (decCall c) b)) [])) none
  | _, _ => none
theorem callTold_ok (xs : List AVal) (H : Heap) (k : Out → Ans) (out : Out) (ho : callTold xs H k = some out) : ∃ o, CallOK Tryd.prog 55 xs H o ∧ k o = some out := by
  unfold callTold at ho
  split at ho
  · rename_i c b
    rw [Bool.cond_eq_ite] at ho
    split at ho
    · rename_i hc
      obtain ⟨h1, h2⟩ := of_tst hc
      generalize decCall c = a at h1 h2 ho
      subst h1
      exact ⟨_, layG_ok.call (pCall_call h2 b), ho⟩
    · simp at ho
  · simp at ho
noncomputable def layH : Lay := layG.addF 55 callTold
theorem layH_ok : layH.OK Tryd.prog := layG_ok.addF callTold_ok

def okPipe (l : List CallD) : Prop := l.length ≤ 1099511627776 ∧ ∀ c ∈ l, okCall c
abbrev encPipe (full : Bool) (l : List CallD) : AVal := encL full encCall callD0 l
theorem decPipe_enc (full : Bool) (l : List CallD) : decL decCall (encPipe full l) = l := decL_encL decCall_enc l
def cHit (l : List CallD) (i : Nat) : Bool := !callB (l.getD i callD0) (decide (0 < i))
def pipeB (l : List CallD) : Bool := decide (1 ≤ l.length ∧ l.length ≤ 16) && !(List.range l.length).any (cHit l)
/- pipes.Check -/
noncomputable def chkSp : LSp := fun vs bs H k => match vs with
  | [x, .int .i64 n, .int .i64 z] => cond (tst (x = encPipe (fullOf x) (decL decCall x) ∧ okPipe (decL decCall x) ∧ n = (decL decCall x).length ∧ z = 0 ∧ bs = []))
      (cond ((List.range (decL decCall x).length).any (cHit (decL decCall x))) (k .ret [.int .i64 9] [] H) (k (.exit 0) [.undef] [] H)) none
  | _ => none
noncomputable def chkFH : FH := .of [(4, loopSpec 26 [13,14,15] [] [2] [] chkSp)]
noncomputable abbrev chkTurn := lturn Tryd.prog layH chkFH 26 4 [13,14,15] [] [2] []
abbrev chkSt (full : Bool) (l : List CallD) (i : Int) (H : Heap) (D : List (FuncId × List AVal)) : St := stL 26 [13,14,15] [encPipe full l, .int .i64 l.length, .int .i64 i] [] [] H D
theorem chk_step0 (full : Bool) (l : List CallD) (i : Nat) (H : Heap) (D : List (FuncId × List AVal)) (k : Kont) : chkTurn (chkSt full l i H D) k =
    cond (decide ((i : Int) < l.length)) (cond (decide ((i : Int) < l.length))
      (cond (tst (encCall (l.getD (i : Int).toNat callD0) = encCall (decCall (encCall (l.getD (i : Int).toNat callD0))) ∧ okCall (decCall (encCall (l.getD (i : Int).toNat callD0)))))
        (cond (!callB (decCall (encCall (l.getD (i : Int).toNat callD0))) (decide ((i : Int) > 0))) (k .ret (stL 26 [2] [.int .i64 9] [] [] H D)) (k .normal (chkSt full l (IntKind.i64.wrap ((i : Int) + 1)) H D))) none) none)
      (k (.exit 0) (stL 26 [2] [.undef] [] [] H D)) := by kernel_rfl
theorem pos_cast (i : Nat) : decide ((i : Int) > 0) = decide (0 < i) := by
  rw [Bool.eq_iff_iff]; simp
theorem chkSp_ok : SpOK chkTurn 26 [13,14,15] [] [2] [] chkSp := by
  intro vs bs H k out ho
  unfold chkSp at ho
  split at ho
  case h_2 => simp at ho
  rename_i x n z
  rw [Bool.cond_eq_ite] at ho
  split at ho
  case isFalse => simp at ho
  rename_i hc
  obtain ⟨hx, hk, rfl, rfl, rfl⟩ := of_tst hc
  generalize fullOf x = full at hx
  generalize decL decCall x = l at hx hk ho
  subst hx
  have hn := hk.1
  have hrun := fun D k => search_any (turn := chkTurn) (S := fun i => chkSt full l (i : Nat) H D) (hit := cHit l) (n := l.length) (e0 := .exit 0) (e1 := .ret) (R0 := stL 26 [2] [.undef] [] [] H D) (R1 := stL 26 [2] [.int .i64 9] [] [] H D)
    (fun i k hi => by
      rw [chk_step0, decide_eq_true (show (i : Int) < l.length by omega), wrap_add1 (by omega), decCall_enc, Int.toNat_natCast, tst_true ⟨rfl, getD_ok hk.2 hi⟩, pos_cast]; rfl)
    (fun k => by rw [chk_step0, decide_eq_false (by omega)]; rfl) (by simp) (by simp) k
  cases ha : (List.range l.length).any (cHit l) with
  | true =>
    rw [ha] at ho
    exact ⟨_, _, _, _, _, _, .refl _, ⟨_, fun D k => (hrun D k).trans (by rw [ha]; rfl)⟩, .refl _, ho⟩
  | false =>
    rw [ha] at ho
    exact ⟨_, _, _, _, _, _, .refl _, ⟨_, fun D k => (hrun D k).trans (by rw [ha]; rfl)⟩, .refl _, ho⟩
noncomputable def layI : Lay := layH.addL 26 chkFH
theorem layI_ok : layI.OK Tryd.prog := layH_ok.loop1 (id := 4) (by kernel_rfl) (by kernel_rfl) (by kernel_rfl) chkSp_ok
/- muslinref19.May -/
noncomputable def may7 : LSp := fun vs bs H k => match vs with
  | [x, .int .i64 i, .int .i64 z] => cond (tst (x = encPipe (fullOf x) (decL decCall x) ∧ okPipe (decL decCall x) ∧ z = 0 ∧ 0 ≤ i ∧ i < (decL decCall x).length ∧ bs = []))
      (cond (cBad ((decL decCall x).getD i.toNat callD0)) (k .ret [x, .bool false, .int .i64 i] [] H) (k (.exit 2) [x, .undef, .int .i64 i] [] H)) none
  | _ => none
noncomputable def may4 : LSp := fun vs bs H k => match vs with
  | [x, .int .i64 z] => cond (tst (x = encPipe (fullOf x) (decL decCall x) ∧ okPipe (decL decCall x) ∧ z = 0 ∧ bs = []))
      (cond ((List.range (decL decCall x).length).any (cHit (decL decCall x))) (k .ret [.bool false] [] H) (k (.exit 0) [.undef] [] H)) none
  | _ => none
noncomputable def mayFH : FH := .of [(4, loopSpec 87 [0,3] [] [2] [] may4), (7, loopSpec 87 [0,3,4] [] [0,2,3] [] may7)]
noncomputable abbrev may7Turn := lturn Tryd.prog layI mayFH 18 7 [0,3,4] [] [0,2,3] []
noncomputable abbrev may4Turn := lturn Tryd.prog layI mayFH 18 4 [0,3] [] [2] []

theorem may7_step0 (full : Bool) (l : List CallD) (i j : Nat) (H : Heap) (D : List (FuncId × List AVal)) (k : Kont) : may7Turn (stL 87 [0,3,4] [encPipe full l, .int .i64 i, .int .i64 j] [] [] H D) k =
    cond (decide ((i : Int) < l.length)) (cond (decide ((j : Int) < (l.getD (i : Int).toNat callD0).args.length)) (cond (decide ((i : Int) < l.length)) (cond (decide ((j : Int) < (l.getD (i : Int).toNat callD0).args.length))
      (cond (tst (encArg ((l.getD (i : Int).toNat callD0).args.getD (j : Int).toNat argD0) = encArg (decArg (encArg ((l.getD (i : Int).toNat callD0).args.getD (j : Int).toNat argD0))) ∧ okArg (decArg (encArg ((l.getD (i : Int).toNat callD0).args.getD (j : Int).toNat argD0)))))
        (cond (!argB (decArg (encArg ((l.getD (i : Int).toNat callD0).args.getD (j : Int).toNat argD0)))) (k .ret (stL 87 [0,2,3] [encPipe full l, .bool false, .int .i64 i] [] [] H D)) (k .normal (stL 87 [0,3,4] [encPipe full l, .int .i64 i, .int .i64 (IntKind.i64.wrap ((j : Int) + 1))] [] [] H D))) none) none) none)
      (k (.exit 2) (stL 87 [0,2,3] [encPipe full l, .undef, .int .i64 i] [] [] H D))) none := by kernel_rfl
theorem may7_ok : SpOK may7Turn 87 [0,3,4] [] [0,2,3] [] may7 := by
  intro vs bs H k out ho
  unfold may7 at ho
  split at ho
  case h_2 => simp at ho
  rename_i x i z
  rw [Bool.cond_eq_ite] at ho
  split at ho
  case isFalse => simp at ho
  rename_i hc
  obtain ⟨hx, hk, rfl, hi0, hi1, rfl⟩ := of_tst hc
  generalize fullOf x = full at hx
  generalize decL decCall x = l at hx hk ho hi1
  subst hx
  obtain ⟨i, rfl⟩ : ∃ n : Nat, i = n := ⟨i.toNat, by omega⟩
  have hi : i < l.length := by omega
  have hcl : okCall (l.getD i callD0) := getD_ok hk.2 hi
  have hrun := fun D k => search_any (turn := may7Turn) (S := fun j => stL 87 [0,3,4] [encPipe full l, .int .i64 i, .int .i64 (j : Nat)] [] [] H D) (hit := fun j => !argB ((l.getD i callD0).args.getD j argD0)) (n := (l.getD i callD0).args.length) (e0 := .exit 2) (e1 := .ret)
    (R0 := stL 87 [0,2,3] [encPipe full l, .undef, .int .i64 i] [] [] H D) (R1 := stL 87 [0,2,3] [encPipe full l, .bool false, .int .i64 i] [] [] H D)
    (fun j k hj => by
      have := hcl.1
      rw [may7_step0, decide_eq_true hi1, Int.toNat_natCast, Int.toNat_natCast, decide_eq_true (show (j : Int) < ((l.getD i callD0).args.length : Int) by omega), wrap_add1 (by omega), decArg_enc, tst_true ⟨rfl, getD_ok hcl.2.1 hj⟩]; rfl)
    (fun k => by rw [may7_step0, decide_eq_true hi1, Int.toNat_natCast, decide_eq_false (by omega)]; rfl) (by simp) (by simp) k
  have ea : (List.range (l.getD i callD0).args.length).any (fun j => !argB ((l.getD i callD0).args.getD j argD0)) = cBad (l.getD i callD0) := any_getD (fun a => !argB a) _ argD0
  rw [ea] at hrun
  rw [Int.toNat_natCast] at ho
  cases ha : cBad (l.getD i callD0) with
  | true =>
    rw [ha] at ho
    exact ⟨_, _, _, _, _, _, .refl _, ⟨_, fun D k => (hrun D k).trans (by rw [ha]; rfl)⟩, .refl _, ho⟩
  | false =>
    rw [ha] at ho
    exact ⟨_, _, _, _, _, _, .refl _, ⟨_, fun D k => (hrun D k).trans (by rw [ha]; rfl)⟩, .refl _, ho⟩
abbrev may4Nx (full : Bool) (l : List CallD) (i : Nat) (H : Heap) (D : List (FuncId × List AVal)) : St := stL 87 [0,3] [encPipe full l, .int .i64 (IntKind.i64.wrap ((i : Int) + 1))] [] [] H D
abbrev may4Re (H : Heap) (D : List (FuncId × List AVal)) : St := stL 87 [2] [.bool false] [] [] H D
theorem may4_step0 (full : Bool) (l : List CallD) (i : Nat) (H : Heap) (D : List (FuncId × List AVal)) (k : Kont) : may4Turn (stL 87 [0,3] [encPipe full l, .int .i64 i] [] [] H D) k =
    cond (decide ((i : Int) < l.length)) (cond (tst (encPipe full l = encPipe (fullOf (encPipe full l)) (decL decCall (encPipe full l)) ∧ okPipe (decL decCall (encPipe full l)) ∧ (0 : Int) = 0 ∧ 0 ≤ (i : Int) ∧ (i : Int) < (decL decCall (encPipe full l)).length ∧ ([] : List (List AVal)) = []))
      (cond (cBad ((decL decCall (encPipe full l)).getD (i : Int).toNat callD0)) (k .ret (may4Re H D))
        (cond (decide ((i : Int) < l.length)) (cond (decide ((i : Int) < l.length))
          (cond ((l.getD (i : Int).toNat callD0).name == []) (cond (cond (decide ((i : Int) > 0)) true (((l.getD (i : Int).toNat callD0).args.length : Int) != 1)) (k .ret (may4Re H D)) (k .normal (may4Nx full l i H D)))
            (cond (decide ((i : Int) > 0)) (cond (decide ((i : Int) < l.length))
                (cond (cond (cond (!(ar (l.getD (i : Int).toNat callD0).name).2.2) true (decide (IntKind.i64.wrap (((l.getD (i : Int).toNat callD0).args.length : Int) + 1) < (ar (l.getD (i : Int).toNat callD0).name).1))) true (decide (IntKind.i64.wrap (((l.getD (i : Int).toNat callD0).args.length : Int) + 1) > (ar (l.getD (i : Int).toNat callD0).name).2.1))) (k .ret (may4Re H D)) (k .normal (may4Nx full l i H D))) none)
              (cond (decide ((i : Int) < l.length))
                (cond (cond (cond (!(ar (l.getD (i : Int).toNat callD0).name).2.2) true (decide (((l.getD (i : Int).toNat callD0).args.length : Int) < (ar (l.getD (i : Int).toNat callD0).name).1))) true (decide (((l.getD (i : Int).toNat callD0).args.length : Int) > (ar (l.getD (i : Int).toNat callD0).name).2.1))) (k .ret (may4Re H D)) (k .normal (may4Nx full l i H D))) none))) none) none)) none)
      (k (.exit 0) (stL 87 [2] [.undef] [] [] H D)) := by kernel_rfl
theorem not_lt_dec (a b : Int) : decide (a < b) = !decide (b ≤ a) := by rw [Bool.eq_iff_iff]; simp
theorem may4_step (full : Bool) (l : List CallD) (i : Nat) (H : Heap) (D : List (FuncId × List AVal)) (k : Kont) (hk : okPipe l) (hi : i < l.length) : may4Turn (stL 87 [0,3] [encPipe full l, .int .i64 i] [] [] H D) k =
    cond (cHit l i) (k .ret (may4Re H D)) (k .normal (stL 87 [0,3] [encPipe full l, .int .i64 ((i + 1 : Nat) : Int)] [] [] H D)) := by
  have hn := hk.1
  have hcl : okCall (l.getD i callD0) := getD_ok hk.2 hi
  have hal := hcl.1
  rw [may4_step0, decPipe_enc, decide_eq_true (show (i : Int) < l.length by omega), tst_true ⟨rfl, hk, rfl, by omega, by omega, rfl⟩, Int.toNat_natCast]
  unfold may4Nx
  rw [wrap_add1 (show i < _ by omega), wrap_add1 (show (l.getD i callD0).args.length < _ by omega), pos_cast]
  unfold cHit callB cCnt
  have e : (((l.getD i callD0).args.length + 1 : Nat) : Int) = ((l.getD i callD0).args.length : Int) + 1 := by omega
  rw [e]
  simp only [gt_iff_lt, not_lt_dec, cond_true]
  rw [show (((l.getD i callD0).args.length : Int) != 1) = (!(((l.getD i callD0).args.length : Int) == 1)) from rfl]
  generalize cBad (l.getD i callD0) = b1
  generalize ((l.getD i callD0).name == []) = b2
  generalize (ar (l.getD i callD0).name).2.2 = b3
  generalize (((l.getD i callD0).args.length : Int) == 1) = b4
  generalize decide (0 < i) = b5
  cases b5
  · simp only [cond_false]
    generalize decide ((ar (l.getD i callD0).name).1 ≤ ((l.getD i callD0).args.length : Int)) = b6
    generalize decide (((l.getD i callD0).args.length : Int) ≤ (ar (l.getD i callD0).name).2.1) = b7
    cases b1 <;> cases b2 <;> cases b3 <;> cases b4 <;> cases b6 <;> cases b7 <;> rfl
  · simp only [cond_true]
    generalize decide ((ar (l.getD i callD0).name).1 ≤ ((l.getD i callD0).args.length : Int) + 1) = b6
    generalize decide (((l.getD i callD0).args.length : Int) + 1 ≤ (ar (l.getD i callD0).name).2.1) = b7
    cases b1 <;> cases b2 <;> cases b3 <;> cases b4 <;> cases b6 <;> cases b7 <;> rfl

theorem may4_ok : SpOK may4Turn 87 [0,3] [] [2] [] may4 := by
  intro vs bs H k out ho
  unfold may4 at ho
  split at ho
  case h_2 => simp at ho
  rename_i x z
  rw [Bool.cond_eq_ite] at ho
  split at ho
  case isFalse => simp at ho
  rename_i hc
  obtain ⟨hx, hk, rfl, rfl⟩ := of_tst hc
  generalize fullOf x = full at hx
  generalize decL decCall x = l at hx hk ho
  subst hx
  have hrun := fun D k => search_any (turn := may4Turn) (S := fun i => stL 87 [0,3] [encPipe full l, .int .i64 (i : Nat)] [] [] H D) (hit := cHit l) (n := l.length) (e0 := .exit 0) (e1 := .ret) (R0 := stL 87 [2] [.undef] [] [] H D) (R1 := stL 87 [2] [.bool false] [] [] H D)
    (fun i k hi => may4_step full l i H D k hk hi)
    (fun k => by rw [may4_step0, decide_eq_false (by omega)]; rfl) (by simp) (by simp) k
  cases ha : (List.range l.length).any (cHit l) with
  | true =>
    rw [ha] at ho
    exact ⟨_, _, _, _, _, _, .refl _, ⟨_, fun D k => (hrun D k).trans (by rw [ha]; rfl)⟩, .refl _, ho⟩
  | false =>
    rw [ha] at ho
    exact ⟨_, _, _, _, _, _, .refl _, ⟨_, fun D k => (hrun D k).trans (by rw [ha]; rfl)⟩, .refl _, ho⟩
theorem may7_told : LOk Tryd.prog mayFH (loopAt 7 (codeOf Tryd.prog 18)) := LOk.of _ (fun d hd => by
  have e2 : loopsIn (loopAt 7 (codeOf Tryd.prog 18)) = [] := by kernel_rfl
  rw [e2] at hd; cases hd)
theorem may_loops : LOk Tryd.prog mayFH (codeOf Tryd.prog 18) := by
  have t7 : LoopTold Tryd.prog (loopAt 7 (codeOf Tryd.prog 18)) (loopSpec 87 [0,3,4] [] [0,2,3] [] may7) := layI_ok.told may7_told may7_ok
  have f7 : mayFH.loops (firstRegion (loopAt 7 (codeOf Tryd.prog 18))) = some (loopSpec 87 [0,3,4] [] [0,2,3] [] may7) := by kernel_rfl
  have f4 : mayFH.loops (firstRegion (loopAt 4 (codeOf Tryd.prog 18))) = some (loopSpec 87 [0,3] [] [2] [] may4) := by kernel_rfl
  have e4 : loopsIn (loopAt 4 (codeOf Tryd.prog 18)) = [loopAt 7 (codeOf Tryd.prog 18)] := by kernel_rfl
  have e : loopsIn (codeOf Tryd.prog 18) = [loopAt 4 (codeOf Tryd.prog 18), loopAt 7 (codeOf Tryd.prog 18)] := by kernel_rfl
  have t4 : LoopTold Tryd.prog (loopAt 4 (codeOf Tryd.prog 18)) (loopSpec 87 [0,3] [] [2] [] may4) := layI_ok.told (LOk.of _ (fun d hd sp hsp => by
    rw [e4, List.mem_singleton] at hd
    subst hd
    rw [f7, Option.some.injEq] at hsp
    subst hsp
    exact t7)) may4_ok
  refine LOk.of _ (fun d hd sp hsp => ?_)
  rw [e, List.mem_cons, List.mem_singleton] at hd
  rcases hd with rfl | rfl
  · rw [f4, Option.some.injEq] at hsp
    subst hsp; exact t4
  · rw [f7, Option.some.injEq] at hsp
    subst hsp; exact t7
noncomputable def layJ : Lay := layI.addL 18 mayFH
theorem layJ_ok : layJ.OK Tryd.prog := layI_ok.addL may_loops

theorem chk_fun (full : Bool) (l : List CallD) (k : Out → Ans) : iFun Tryd.prog (layJ.hd Tryd.prog) layJ.fhs 0 26 [encPipe full l] [] k =
    cond (cond (decide ((l.length : Int) < 1)) true (decide ((l.length : Int) > 16))) (k (.ret (.int .i64 9) []))
      (cond (tst (encPipe full l = encPipe (fullOf (encPipe full l)) (decL decCall (encPipe full l)) ∧ okPipe (decL decCall (encPipe full l)) ∧ (l.length : Int) = (decL decCall (encPipe full l)).length ∧ (0 : Int) = 0 ∧ ([] : List (List AVal)) = []))
        (cond ((List.range (decL decCall (encPipe full l)).length).any (cHit (decL decCall (encPipe full l)))) (k (.ret (.int .i64 9) [])) (k (.ret (.int .i64 0) []))) none) := by kernel_rfl
theorem may_fun (full : Bool) (l : List CallD) (k : Out → Ans) : iFun Tryd.prog (layJ.hd Tryd.prog) layJ.fhs 0 18 [encPipe full l] [] k =
    cond (cond (decide ((l.length : Int) < 1)) true (decide ((l.length : Int) > 16))) (k (.ret (.bool false) []))
      (cond (tst (encPipe full l = encPipe (fullOf (encPipe full l)) (decL decCall (encPipe full l)) ∧ okPipe (decL decCall (encPipe full l)) ∧ (0 : Int) = 0 ∧ ([] : List (List AVal)) = []))
        (cond ((List.range (decL decCall (encPipe full l)).length).any (cHit (decL decCall (encPipe full l)))) (k (.ret (.bool false) [])) (k (.ret (.bool true) []))) none) := by kernel_rfl
theorem len_cond (l : List CallD) : cond (decide ((l.length : Int) < 1)) true (decide ((l.length : Int) > 16)) = !decide (1 ≤ l.length ∧ l.length ≤ 16) := by
  by_cases h : 1 ≤ l.length ∧ l.length ≤ 16
  · rw [decide_eq_true h, decide_eq_false (show ¬ (l.length : Int) < 1 by omega), decide_eq_false (show ¬ (l.length : Int) > 16 by omega)]; rfl
  · rw [decide_eq_false h]
    by_cases h1 : l.length < 1
    · rw [decide_eq_true (show (l.length : Int) < 1 by omega)]; rfl
    · rw [decide_eq_false (show ¬ (l.length : Int) < 1 by omega), decide_eq_true (show (l.length : Int) > 16 by omega)]; rfl
theorem chk_call {l : List CallD} (h : okPipe l) (full : Bool) (k : Out → Ans) : iFun Tryd.prog (layJ.hd Tryd.prog) layJ.fhs 0 26 [encPipe full l] [] k = k (.ret (.int .i64 (cond (pipeB l) 0 9)) []) := by
  rw [chk_fun, len_cond, decPipe_enc, tst_true ⟨rfl, h, rfl, rfl, rfl⟩]
  unfold pipeB
  cases decide (1 ≤ l.length ∧ l.length ≤ 16) <;> cases (List.range l.length).any (cHit l) <;> rfl
theorem may_call {l : List CallD} (h : okPipe l) (full : Bool) (k : Out → Ans) : iFun Tryd.prog (layJ.hd Tryd.prog) layJ.fhs 0 18 [encPipe full l] [] k = k (.ret (.bool (pipeB l)) []) := by
  rw [may_fun, len_cond, decPipe_enc, tst_true ⟨rfl, h, rfl, rfl⟩]
  unfold pipeB
  cases decide (1 ≤ l.length ∧ l.length ≤ 16) <;> cases (List.range l.length).any (cHit l) <;> rfl
noncomputable def chkTold : FSp := fun xs H k => match xs, H with
  | [x], [] => cond (tst (x = encPipe (fullOf x) (decL decCall x) ∧ okPipe (decL decCall x))) (k (.ret (.int .i64 (cond (pipeB (decL decCall x)) 0 9)) [])) none
  | _, _ => none
noncomputable def mayTold : FSp := fun xs H k => match xs, H with
  | [x], [] => cond (tst (x = encPipe (fullOf x) (decL decCall x) ∧ okPipe (decL decCall x))) (k (.ret (.bool (pipeB (decL decCall x))) [])) none
  | _, _ => none
theorem chkTold_ok (xs : List AVal) (H : Heap) (k : Out → Ans) (out : Out) (ho : chkTold xs H k = some out) : ∃ o, CallOK Tryd.prog 26 xs H o ∧ k o = some out := by
  unfold chkTold at ho
  split at ho
  · rename_i x
    rw [Bool.cond_eq_ite] at ho
    split at ho
    · rename_i hc
      obtain ⟨h1, h2⟩ := of_tst hc
      generalize decL decCall x = l at h1 h2 ho
      generalize fullOf x = full at h1
      subst h1
      exact ⟨_, layJ_ok.call (chk_call h2 full), ho⟩
    · simp at ho
  · simp at ho
theorem mayTold_ok (xs : List AVal) (H : Heap) (k : Out → Ans) (out : Out) (ho : mayTold xs H k = some out) : ∃ o, CallOK Tryd.prog 18 xs H o ∧ k o = some out := by
  unfold mayTold at ho
  split at ho
  · rename_i x
    rw [Bool.cond_eq_ite] at ho
    split at ho
    · rename_i hc
      obtain ⟨h1, h2⟩ := of_tst hc
      generalize decL decCall x = l at h1 h2 ho
      generalize fullOf x = full at h1
      subst h1
      exact ⟨_, layJ_ok.call (may_call h2 full), ho⟩
    · simp at ho
  · simp at ho
noncomputable def layK : Lay := (layJ.addF 26 chkTold).addF 18 mayTold
theorem layK_ok : layK.OK Tryd.prog := (layJ_ok.addF chkTold_ok).addF mayTold_ok
end Go.Mu
set_option linter.unusedVariables false
set_option linter.unusedSimpArgs false
set_option maxRecDepth 100000
namespace Go.Mu
open Go Go.Proofs
def all2 {α : Type} (f : α → α → Bool) : List α → List α → Bool
  | [], [] => true
  | x :: xs, y :: ys => f x y && all2 f xs ys
  | _, _ => false
theorem all2_len {α : Type} {f : α → α → Bool} : ∀ (a b : List α), a.length ≠ b.length → all2 f a b = false
  | [], [], h => absurd rfl h
  | [], _ :: _, _ => rfl
  | _ :: _, [], _ => rfl
  | x :: xs, y :: ys, h => by
    simp only [all2, all2_len xs ys (by simpa using h), Bool.and_false]
theorem all2_any {α : Type} {f : α → α → Bool} (d : α) : ∀ (a b : List α), a.length = b.length → (List.range a.length).any (fun i => !f (a.getD i d) (b.getD i d)) = !all2 f a b
  | [], [], _ => rfl
  | [], _ :: _, h => by simp at h
  | _ :: _, [], h => by simp at h
  | x :: xs, y :: ys, h => by
    have ih := all2_any (f := f) d xs ys (by simpa using h)
    rw [List.length_cons, List.range_succ_eq_map, List.any_cons, List.any_map]
    have e : ((fun i => !f ((x :: xs).getD i d) ((y :: ys).getD i d)) ∘ Nat.succ) = fun i => !f (xs.getD i d) (ys.getD i d) := by
      funext i; simp [List.getD_eq_getElem?_getD]
    rw [e, ih]
    simp [all2]
theorem all2_refl {α : Type} {f : α → α → Bool} : ∀ a : List α, (∀ x ∈ a, f x x = true) → all2 f a a = true
  | [], _ => rfl
  | x :: xs, h => by
    simp only [all2, h x (by simp), all2_refl xs (fun y hy => h y (by simp [hy])), Bool.and_self]
abbrev eqS (a b : List UInt8) : Bool := a == b

theorem len_ne {α : Type} (a b : List α) : ((a.length : Int) != b.length) = !decide (a.length = b.length) := by
  by_cases h : a.length = b.length
  · rw [decide_eq_true h, h]; simp
  · rw [decide_eq_false h]
    have : ((a.length : Int) == b.length) = false := beq_false_of_ne (by omega)
    simp [bne, this]
def argEq (a b : ArgD) : Bool := a.kind == b.kind && a.name == b.name && a.int == b.int && a.text == b.text && all2 eqS a.path b.path

theorem argEq_refl (a : ArgD) : argEq a a = true := by
  unfold argEq
  simp only [beq_self_eq_true, Bool.true_and]
  exact all2_refl _ (fun s _ => by simp)
abbrev encAs (full : Bool) (l : List ArgD) : AVal := encL full encArg argD0 l
theorem decAs_enc (full : Bool) (l : List ArgD) : decL decArg (encAs full l) = l := decL_encL decArg_enc l
def callEq (c d : CallD) : Bool := c.name == d.name && all2 argEq c.args d.args
def pipeEq (a b : List CallD) : Bool := all2 callEq a b
noncomputable def sameTold : FSp := fun xs H k => match xs, H with
  | [x, y], [] => cond (tst (x = encPipe (fullOf x) (decL decCall x) ∧ y = encPipe (fullOf y) (decL decCall y) ∧ okPipe (decL decCall x) ∧ okPipe (decL decCall y))) (k (.ret (.bool (pipeEq (decL decCall x) (decL decCall y))) [])) none
  | _, _ => none
end Go.Mu
set_option linter.unusedVariables false
set_option linter.unusedSimpArgs false
set_option maxRecDepth 100000
namespace Go.Mu
open Go Go.Proofs
abbrev ssL (f : Bool) (l : List (List UInt8)) : AVal := encL f encS [] l
def idxS (l : List (List UInt8)) (s : List UInt8) : Int := bif l.any (fun x => s == x) then ((l.findIdx (fun x => s == x) : Nat) : Int) else -1
structure IxA where
  f : Bool
  l : List (List UInt8)
  s : List UInt8
  H : Heap
noncomputable def ixsSp : LSp := mkL (fun vs _ H => IxA.mk (fullOf (vs.getD 0 .undef)) (decL decS (vs.getD 0 .undef)) (aS vs 1) H) (fun a => a.l.length ≤ 1099511627776) (fun a => [ssL a.f a.l, .str a.s, .int .i64 a.l.length, .int .i64 0]) (fun _ => []) (fun a => a.H)
  (fun a k => cond (a.l.any (fun x => a.s == x)) (k .ret [.int .i64 (a.l.findIdx (fun x => a.s == x) : Nat)] [] a.H) (k (.exit 0) [.undef] [] a.H))
noncomputable def ixsFH : FH := .of [(2, loopSpec 19 [0,1,7,8] [] [4] [] ixsSp)]
theorem ixs_step (f : Bool) (l : List (List UInt8)) (s : List UInt8) (n i : Int) (H : Heap) (D : List (FuncId × List AVal)) (k : Kont) : lturn Tryd.prog Lay.nil ixsFH 139 2 [0,1,7,8] [] [4] [] (stL 19 [0,1,7,8] [ssL f l, .str s, .int .i64 n, .int .i64 i] [] [] H D) k = (
  bif decide (i < n) then
  bif decide (0 ≤ i) && decide (i < (↑l.length : Int)) then
  bif s == l.getD i.toNat [] then k AExit.ret (stL 19 [4] [AVal.int IntKind.i64 i] [] [] H D)
  else
  k AExit.normal
  (stL 19 [0, 1, 7, 8]
  [AVal.list f l.length fun (i : Nat) => [AVal.str (l.getD i [])], AVal.str s, AVal.int IntKind.i64 n,
  AVal.int IntKind.i64 (IntKind.i64.wrap (i + 1))]
  [] [] H D)
  else none
  else k (AExit.exit 0) (stL 19 [4] [AVal.undef] [] [] H D)) := by kernel_rfl
theorem ixsSp_ok : SpOK (lturn Tryd.prog Lay.nil ixsFH 139 2 [0,1,7,8] [] [4] []) 19 [0,1,7,8] [] [4] [] ixsSp := mkL_ok fun a h => by
  obtain ⟨f, l, s, H⟩ := a
  replace h : l.length ≤ 1099511627776 := h
  have hrun : ∀ D k, rounds (lturn Tryd.prog Lay.nil ixsFH 139 2 [0,1,7,8] [] [4] []) (l.length + 1) (stL 19 [0,1,7,8] [ssL f l, .str s, .int .i64 l.length, .int .i64 0] [] [] H D) k = cond (l.any (fun x => s == x)) (k .ret (stL 19 [4] [.int .i64 (l.findIdx (fun x => s == x) : Nat)] [] [] H D)) (k (.exit 0) (stL 19 [4] [.undef] [] [] H D)) := by
    intro D k
    have := search_find (turn := lturn Tryd.prog Lay.nil ixsFH 139 2 [0,1,7,8] [] [4] []) (S := fun i => stL 19 [0,1,7,8] [ssL f l, .str s, .int .i64 l.length, .int .i64 (i : Nat)] [] [] H D) (hit := fun i => (fun x => s == x) (l.getD i [])) (n := l.length) (e0 := .exit 0) (e1 := .ret)
      (R0 := stL 19 [4] [.undef] [] [] H D) (R1 := fun i => stL 19 [4] [.int .i64 (i : Nat)] [] [] H D) (fun i k hi => by
        rw [ixs_step, dT (show (i : Int) < l.length by omega), dT (show (0 : Int) ≤ i by omega), wrap_add1 (by omega)]; rfl) (fun k => by rw [ixs_step, dF (by omega)]; rfl) (by simp) (by simp) k
    rw [find_getD (fun x => s == x)] at this
    refine Eq.trans this ?_
    cases l.any (fun x => s == x) <;> rfl
  show ∃ e vs bs H', (∀ k : AExit → List AVal → List (List AVal) → Heap → Ans, cond (l.any (fun x => s == x)) _ _ = k e vs bs H') ∧ _
  cases ha : l.any (fun x => s == x) with
  | true => exact ⟨_, _, _, _, fun k => rfl, _, fun D k => by rw [hrun, ha]; rfl⟩
  | false => exact ⟨_, _, _, _, fun k => rfl, _, fun D k => by rw [hrun, ha]; rfl⟩
noncomputable def layIs : Lay := Lay.nil.addL 139 ixsFH
theorem layIs_ok : layIs.OK Tryd.prog := Lay.nil_ok.loop1 (id := 2) (by kernel_rfl) (by kernel_rfl) (by kernel_rfl) ixsSp_ok
theorem ixs_fun (f : Bool) (l : List (List UInt8)) (s : List UInt8) (k : Out → Ans) : iFun Tryd.prog (layIs.hd Tryd.prog) layIs.fhs 0 139 [ssL f l, .str s] [] k = (
 let m0 : Nat := (decL decS (AVal.list f l.length fun (i : Nat) => [AVal.str (l.getD i [])])).length;
  bif
  tst
  (m0 ≤ 1099511627776 ∧
  SubTL
  [AVal.list f l.length fun (i : Nat) => [AVal.str (l.getD i [])], AVal.str s,
  AVal.int IntKind.i64 (↑l.length : Int), AVal.int IntKind.i64 0]
  [ssL (fullOf (AVal.list f l.length fun (i : Nat) => [AVal.str (l.getD i [])]))
  (decL decS (AVal.list f l.length fun (i : Nat) => [AVal.str (l.getD i [])])),
  AVal.str s, AVal.int IntKind.i64 (↑m0 : Int), AVal.int IntKind.i64 0] ∧
  ([] : List (List AVal)) = [] ∧ ([] : Heap) = []) then
  bif
  (decL decS (AVal.list f l.length fun (i : Nat) => [AVal.str (l.getD i [])])).any fun (x : List UInt8) =>
  s == x then
  k
  (Out.ret
  (AVal.int IntKind.i64
  (↑(List.findIdx (fun (x : List UInt8) => s == x)
  (decL decS (AVal.list f l.length fun (i : Nat) => [AVal.str (l.getD i [])]))) :
  Int))
  [])
  else k (Out.ret (AVal.int IntKind.i64 (-1)) [])
  else none) := by kernel_rfl
theorem decS_enc (f : Bool) (l : List (List UInt8)) : decL decS (ssL f l) = l := decL_encL (fun s => rfl) l
theorem ixs_ok (f : Bool) (l : List (List UInt8)) (s : List UInt8) (hl : l.length ≤ 1099511627776) : CallOK Tryd.prog 139 [ssL f l, .str s] [] (.ret (.int .i64 (idxS l s)) []) := by
  have e : decL decS (AVal.list f l.length fun (i : Nat) => [AVal.str (l.getD i [])]) = l := decS_enc f l
  refine layIs_ok.callF (G := []) rfl (fun k => (ixs_fun f l s k).trans ?_)
  simp only [e]
  refine (congrArg (fun c => cond c _ none) (tst_true ⟨hl, .refl _, trivial, trivial⟩)).trans ?_
  unfold idxS
  cases l.any (fun x => s == x) <;> rfl
noncomputable def ixsTold : FSp := mkF (fun xs H => (fullOf (xs.getD 0 .undef), decL decS (xs.getD 0 .undef), aS xs 1)) (fun x => x.2.1.length ≤ 1099511627776) (fun x => [ssL x.1 x.2.1, .str x.2.2]) (fun _ => []) (fun x k => k (.ret (.int .i64 (idxS x.2.1 x.2.2)) []))
theorem ixsTold_ok : ∀ xs H k out, ixsTold xs H k = some out → ∃ o, CallOK Tryd.prog 139 xs H o ∧ k o = some out := mkF_ok fun x h => ⟨_, fun k => rfl, ixs_ok _ _ _ h⟩
def cTrue : List UInt8 := [116, 114, 117, 101]
def cFalse : List UInt8 := [102, 97, 108, 115, 101]
def cNil : List UInt8 := [110, 105, 108]
noncomputable def layIs2 : Lay := Lay.nil.addF 139 ixsTold
theorem layIs2_ok : layIs2.OK Tryd.prog := Lay.nil_ok.addF ixsTold_ok
theorem const_fun (s : List UInt8) (k : Out → Ans) : iFun Tryd.prog (layIs2.hd Tryd.prog) layIs2.fhs 0 77 [.str s] [] k = (
  bif
  tst
  (3 ≤ 1099511627776 ∧
  SubL
  [AVal.list true 3 fun (i : Nat) =>
  [[AVal.str [116, 114, 117, 101]], [AVal.str [102, 97, 108, 115, 101]], [AVal.str [110, 105, 108]]].getD
  i [],
  AVal.str s]
  [ssL true
  (decL decS
  (AVal.list true 3 fun (i : Nat) =>
  [[AVal.str [116, 114, 117, 101]], [AVal.str [102, 97, 108, 115, 101]],
  [AVal.str [110, 105, 108]]].getD
  i [])),
  AVal.str s] ∧
  ([] : Heap) = []) then
  k
  (Out.ret
  (AVal.int IntKind.i64
  (idxS
  (decL decS
  (AVal.list true 3 fun (i : Nat) =>
  [[AVal.str [116, 114, 117, 101]], [AVal.str [102, 97, 108, 115, 101]], [AVal.str [110, 105, 108]]].getD i
  []))
  s))
  [])
  else none) := by kernel_rfl
noncomputable def wordFH : FH := { own := [16] }
noncomputable def layPw : Lay := (((Lay.nil.addF 45 sJoinTold).addF 90 prTold).addF 28 quoteTold).addL 44 wordFH
theorem layPw_ok : layPw.OK Tryd.prog := (((Lay.nil_ok.addF sJoinTold_ok).addF prTold_ok).addF quoteTold_ok).addN (by kernel_rfl)
theorem word_fun (a : ArgD) (k : Out → Ans) : iFun Tryd.prog (layPw.hd Tryd.prog) layPw.fhs 0 44 [.agg (encArg a)] [] k = (
 let m0 : Nat := a.path.length;
 let m1 : Nat := (decL decS (AVal.list a.pf m0 fun (i : Nat) => [AVal.str (a.path.getD i [])])).length;
 let l2 : List UInt8 := Lib.join (decL decS (AVal.list a.pf m0 fun (i : Nat) => [AVal.str (a.path.getD i [])])) [46];
 let m3 : Nat := l2.length;
 let m4 : Nat := 1 + (List.map (fun (i : Nat) => [AVal.str (a.path.getD i [])]) (List.range m0)).length;
 let m5 : Nat :=
  (decL decS
  (AVal.list false m4 fun (i : Nat) =>
  ([AVal.str (36 :: a.name)] ::
  List.map (fun (i : Nat) => [AVal.str (a.path.getD i [])]) (List.range a.path.length)).getD
  (0 + i) [])).length;
 let l6 : List UInt8 :=
  Lib.join
  (decL decS
  (AVal.list false m4 fun (i : Nat) =>
  ([AVal.str (36 :: a.name)] ::
  List.map (fun (i : Nat) => [AVal.str (a.path.getD i [])]) (List.range a.path.length)).getD
  (0 + i) []))
  [46];
 let c7 : Bool := a.kind == 5;
 let n8 : Int := IntKind.i64.wrap (a.kind - 5);
 let c9 : Bool := a.kind == 6;
  bif a.kind == 1 then
  bif
  tst
  ((m1 ≤ 140737488355328 ∧ m3 ≤ 140737488355328) ∧
  SubL [AVal.list a.pf m0 fun (i : Nat) => [AVal.str (a.path.getD i [])], AVal.str [46]]
  [AVal.list (fullOf (AVal.list a.pf m0 fun (i : Nat) => [AVal.str (a.path.getD i [])])) m1 fun (i : Nat) =>
  [AVal.str
  ((decL decS (AVal.list a.pf a.path.length fun (i : Nat) => [AVal.str (a.path.getD i [])])).getD i
  [])],
  AVal.str [46]] ∧
  ([] : Heap) = []) then
  bif decide (1 + m3 ≤ 4611686018427387904) then k (Out.ret (AVal.str (46 :: l2)) []) else none
  else none
  else
  bif a.kind == 2 then
  bif decide (1 + a.name.length ≤ 4611686018427387904) then
  bif decide ((2 * m4 + 1000) * 16 ≤ 281474976710656) && true then
  bif
  (decide
  (0 + m4 ≤
  ([AVal.str (36 :: a.name)] ::
  List.map (fun (i : Nat) => [AVal.str (a.path.getD i [])]) (List.range m0)).length) &&
  ([AVal.str (36 :: a.name)] ::
  List.map (fun (i : Nat) => [AVal.str (a.path.getD i [])]) (List.range m0)).all
  fun (r : List AVal) => r.all isPure) &&
  true then
  bif
  tst
  ((m5 ≤ 140737488355328 ∧ l6.length ≤ 140737488355328) ∧
  SubL
  [AVal.list false m4 fun (i : Nat) =>
  ([AVal.str (36 :: a.name)] ::
  List.map (fun (i : Nat) => [AVal.str (a.path.getD i [])])
  (List.range a.path.length)).getD
  (0 + i) [],
  AVal.str [46]]
  [AVal.list false m5 fun (i : Nat) =>
  [AVal.str
  ((decL decS
  (AVal.list false
  (1 +
  (List.map (fun (i : Nat) => [AVal.str (a.path.getD i [])])
  (List.range a.path.length)).length)
  fun (i : Nat) =>
  ([AVal.str (36 :: a.name)] ::
  List.map (fun (i : Nat) => [AVal.str (a.path.getD i [])])
  (List.range a.path.length)).getD
  (0 + i) [])).getD
  i [])],
  AVal.str [46]] ∧
  ([] : Heap) = []) then
  k
  (Out.ret (AVal.str l6)
  [Obj.arr 1
  ([AVal.str (36 :: a.name)] ::
  List.map (fun (i : Nat) => [AVal.str (a.path.getD i [])]) (List.range m0))
  1])
  else none
  else none
  else none
  else none
  else
  bif a.kind == 3 then
  bif decide (-9223372036854775808 ≤ a.int ∧ a.int ≤ 9223372036854775807) then
  k (Out.ret (AVal.str (printM a.int)) [])
  else none
  else
  bif a.kind == 4 then
  bif decide (a.text.length ≤ 268435456) then k (Out.ret (AVal.str (quoteM a.text)) []) else none
  else
  bif c7 then
  bif c7 then
  bif decide (0 ≤ n8) && decide (n8 < 3) then
  bif
  decide
  (1 ≤
  ([[AVal.str [116, 114, 117, 101]], [AVal.str [102, 97, 108, 115, 101]],
  [AVal.str [110, 105, 108]]].getD
  n8.toNat []).length) &&
  isStr
  (([[AVal.str [116, 114, 117, 101]], [AVal.str [102, 97, 108, 115, 101]],
  [AVal.str [110, 105, 108]]].getD
  n8.toNat []).getD
  0 AVal.undef) then
  k
  (Out.ret
  (AVal.str
  (strOf
  (([[AVal.str [116, 114, 117, 101]], [AVal.str [102, 97, 108, 115, 101]],
  [AVal.str [110, 105, 108]]].getD
  n8.toNat []).getD
  0 AVal.undef)))
  [])
  else none
  else none
  else k (Out.ret (AVal.str []) [])
  else
  bif c9 then
  bif c9 then
  bif decide (0 ≤ n8) && decide (n8 < 3) then
  bif
  decide
  (1 ≤
  ([[AVal.str [116, 114, 117, 101]], [AVal.str [102, 97, 108, 115, 101]],
  [AVal.str [110, 105, 108]]].getD
  n8.toNat []).length) &&
  isStr
  (([[AVal.str [116, 114, 117, 101]], [AVal.str [102, 97, 108, 115, 101]],
  [AVal.str [110, 105, 108]]].getD
  n8.toNat []).getD
  0 AVal.undef) then
  k
  (Out.ret
  (AVal.str
  (strOf
  (([[AVal.str [116, 114, 117, 101]], [AVal.str [102, 97, 108, 115, 101]],
  [AVal.str [110, 105, 108]]].getD
  n8.toNat []).getD
  0 AVal.undef)))
  [])
  else none
  else none
  else k (Out.ret (AVal.str []) [])
  else
  bif a.kind == 7 then
  bif decide (0 ≤ n8) && decide (n8 < 3) then
  bif
  decide
  (1 ≤
  ([[AVal.str [116, 114, 117, 101]], [AVal.str [102, 97, 108, 115, 101]],
  [AVal.str [110, 105, 108]]].getD
  n8.toNat []).length) &&
  isStr
  (([[AVal.str [116, 114, 117, 101]], [AVal.str [102, 97, 108, 115, 101]],
  [AVal.str [110, 105, 108]]].getD
  n8.toNat []).getD
  0 AVal.undef) then
  k
  (Out.ret
  (AVal.str
  (strOf
  (([[AVal.str [116, 114, 117, 101]], [AVal.str [102, 97, 108, 115, 101]],
  [AVal.str [110, 105, 108]]].getD
  n8.toNat []).getD
  0 AVal.undef)))
  [])
  else none
  else none
  else k (Out.ret (AVal.str []) [])) := by kernel_rfl
def constM (s : List UInt8) : Int := idxS [cTrue, cFalse, cNil] s
theorem const_ok (s : List UInt8) : CallOK Tryd.prog 77 [.str s] [] (.ret (.int .i64 (constM s)) []) :=
  layIs2_ok.callF (G := []) rfl (fun k => (const_fun s k).trans ((congrArg (fun c => cond c _ none) (tst_true ⟨by decide, .cons (sub_encL (w := wfS) rfl wfS_sub) (.cons (.refl _) .nil), rfl⟩)).trans rfl))
def constTold : FSp := mkFS [.s] (fun xs => true) (fun xs k => k (.ret (.int .i64 (constM (aS xs 0))) []))
theorem constTold_ok : ∀ xs H k out, constTold xs H k = some out → ∃ o, CallOK Tryd.prog 77 xs H o ∧ k o = some out := mkFS_ok fun ys xs e h => by
  obtain ⟨s, rfl⟩ : ∃ s, xs = [.str s] := ⟨_, e⟩
  exact ⟨_, fun k => rfl, const_ok s⟩
def wordM (a : ArgD) : List UInt8 :=
  bif a.kind == 1 then 46 :: Lib.join a.path [46] else
  bif a.kind == 2 then Lib.join ((36 :: a.name) :: a.path) [46] else
  bif a.kind == 3 then printM a.int else
  bif a.kind == 4 then quoteM a.text else
  bif a.kind == 5 then cTrue else bif a.kind == 6 then cFalse else bif a.kind == 7 then cNil else []
def okW (a : ArgD) : Prop := a.path.length ≤ 1048576 ∧ (Lib.join ((36 :: a.name) :: a.path) [46]).length ≤ 140737488355328 ∧ -9223372036854775808 ≤ a.int ∧ a.int ≤ 9223372036854775807 ∧ a.text.length ≤ 268435456
theorem decS_cons (s : List UInt8) (f : Bool) (l : List (List UInt8)) (n : Nat) (hn : n = 1 + ((List.range l.length).map (fun (i : Nat) => [AVal.str (l.getD i [])])).length) : decL decS (AVal.list f n fun (i : Nat) => ([AVal.str s] :: (List.range l.length).map (fun (i : Nat) => [AVal.str (l.getD i [])])).getD (0 + i) []) = s :: l := by
  subst hn
  have e : (List.range l.length).map (fun (i : Nat) => [AVal.str (l.getD i [])]) = l.map encS := by
    conv => rhs; rw [← range_getD l []]
    rw [List.map_map]; rfl
  rw [e]
  have h : ∀ i, decS (([AVal.str s] :: l.map encS).getD (0 + i) []) = (s :: l).getD i [] := fun i => by
    rw [Nat.zero_add]
    cases i with
    | zero => rfl
    | succ i =>
      show decS ((l.map encS).getD i []) = l.getD i []
      rw [List.getD_eq_getElem?_getD, List.getD_eq_getElem?_getD, List.getElem?_map]
      cases l[i]? <;> rfl
  simp only [decL, h]
  rw [List.length_map, Nat.add_comm]
  exact range_getD (s :: l) []
theorem wfS_cons (s : List UInt8) (f : Bool) (l : List (List UInt8)) (n : Nat) (hn : n = 1 + ((List.range l.length).map (fun (i : Nat) => [AVal.str (l.getD i [])])).length) : wfL wfS (AVal.list f n fun (i : Nat) => ([AVal.str s] :: (List.range l.length).map (fun (i : Nat) => [AVal.str (l.getD i [])])).getD (0 + i) []) = true := by
  subst hn
  simp only [wfL, List.all_eq_true, List.mem_range]
  intro i hi
  rw [List.length_map, List.length_range] at hi
  rw [Nat.zero_add]
  cases i with
  | zero => rfl
  | succ i =>
    show wfS (((List.range l.length).map (fun (i : Nat) => [AVal.str (l.getD i [])])).getD i []) = true
    rw [List.getD_eq_getElem?_getD, List.getElem?_map, List.getElem?_range (by omega)]
    rfl
theorem join_len (x s : List UInt8) (l : List (List UInt8)) : (Lib.join l [46]).length ≤ (Lib.join (s :: l) [46]).length := by
  cases l with
  | nil => simp [Lib.join_nil]
  | cons a r =>
    rw [Lib.join_cons, Lib.join_cons]
    simp [Lib.joinTail]
    omega
theorem word_ok (a : ArgD) (h : okW a) : CallOK Tryd.prog 44 [.agg (encArg a)] [] (.ret (.str (wordM a)) []) := by
  obtain ⟨h1, h2, h3, h4, h5⟩ := h
  obtain ⟨kd, name, pf, path, int, text⟩ := a
  simp only at h1 h2 h3 h4 h5
  have e : decL decS (AVal.list pf path.length fun (i : Nat) => [AVal.str (path.getD i [])]) = path := decS_enc pf path
  have hj := join_len [] (36 :: name) path
  have hn : ((List.range path.length).map (fun (i : Nat) => [AVal.str (path.getD i [])])).length = path.length := by simp
  by_cases k2 : kd = 2
  · subst k2
    have key : ∀ k, iFun Tryd.prog (layPw.hd Tryd.prog) layPw.fhs 0 44 [.agg (encArg ⟨2, name, pf, path, int, text⟩)] [] k = k (.ret (.str (Lib.join ((36 :: name) :: path) [46])) [Obj.arr 1 ([AVal.str (36 :: name)] :: (List.range path.length).map (fun (i : Nat) => [AVal.str (path.getD i [])])) 1]) := fun k => by
      refine (word_fun _ k).trans ?_
      have ec := decS_cons (36 :: name) false path _ rfl
      have hnm : 1 + name.length ≤ 4611686018427387904 := by
        have : (36 :: name).length ≤ (Lib.join ((36 :: name) :: path) [46]).length := by rw [Lib.join_cons, List.length_append]; omega
        rw [List.length_cons] at this
        omega
      simp only [e, hn]
      have hpu : (([AVal.str (36 :: name)] :: List.map (fun (i : Nat) => [AVal.str (path.getD i [])]) (List.range path.length)).all fun (r : List AVal) => r.all isPure) = true := by
        rw [List.all_cons, List.all_map, Bool.and_eq_true]
        exact ⟨rfl, List.all_eq_true.2 fun i hi => rfl⟩
      have b1 : ((2 : Int) == 1) = false := rfl
      have b2 : ((2 : Int) == 2) = true := rfl
      have hw := wfS_cons (36 :: name) false path _ rfl
      rw [hn] at ec hw
      have hs := sub_encL (g := decS) (f := encS) (d := []) hw wfS_sub
      rw [ec] at hs
      simp only [ec]
      simp only [b1, b2, cond_true, cond_false, dT hnm, dT (show (2 * (1 + path.length) + 1000) * 16 ≤ 281474976710656 by omega), hpu, Bool.and_true, List.length_cons, hn, dT (show 0 + (1 + path.length) ≤ path.length + 1 by omega)]
      rw [tst_true ⟨⟨by omega, h2⟩, .cons hs (.cons (.refl _) .nil), trivial⟩]
      rfl
    exact layPw_ok.callF rfl key
  · refine layPw_ok.callF (G := []) rfl (fun k => (word_fun _ k).trans ?_)
    unfold wordM
    have b2 : (kd == 2) = false := by simpa using k2
    simp only [e, b2, cond_false, dT (show -9223372036854775808 ≤ int ∧ int ≤ 9223372036854775807 from ⟨h3, h4⟩), dT h5, cond_true]
    by_cases k1 : kd = 1
    · subst k1
      simp only [beq_self_eq_true, cond_true]
      rw [tst_true ⟨⟨by omega, by omega⟩, .refl _, trivial⟩, cond_true, dT (by omega)]
      rfl
    have b1 : (kd == 1) = false := by simpa using k1
    simp only [b1, cond_false]
    by_cases k5 : kd = 5
    · subst k5; rfl
    by_cases k6 : kd = 6
    · subst k6; rfl
    by_cases k7 : kd = 7
    · subst k7; rfl
    have b5 : (kd == 5) = false := by simpa using k5
    have b6 : (kd == 6) = false := by simpa using k6
    have b7 : (kd == 7) = false := by simpa using k7
    simp only [b5, b6, b7, cond_false]
    cases kd == 3 <;> cases kd == 4 <;> rfl
def argR (xs : List AVal) : List AVal := match xs with | [.agg r] => r | _ => []
def wordR (r : List AVal) : List UInt8 := wordM (decArg r)
def okR (r : List AVal) : Prop := okW (decArg r)
def encR (r : List AVal) : AVal := .agg (encArg (decArg r))
noncomputable def wordTold : FSp := mkF (fun xs H => argR xs) okR (fun r => [encR r]) (fun _ => []) (fun r k => k (.ret (.str (wordR r)) []))
theorem wordTold_ok : ∀ xs H k out, wordTold xs H k = some out → ∃ o, CallOK Tryd.prog 44 xs H o ∧ k o = some out := mkF_ok fun a h => ⟨_, fun k => rfl, word_ok (decArg a) h⟩
theorem wordR_enc (a : ArgD) : wordR (encArg a) = wordM a := by unfold wordR; rw [decArg_enc]
theorem okR_enc (a : ArgD) : okR (encArg a) = okW a := by unfold okR; rw [decArg_enc]
theorem encR_enc (a : ArgD) : encR (encArg a) = .agg (encArg a) := by unfold encR; rw [decArg_enc]
end Go.Mu
set_option linter.unusedVariables false
set_option linter.unusedSimpArgs false
set_option maxRecDepth 100000
namespace Go.Mu
open Go Go.Proofs
def encWq (w : WdD) : List AVal := [.int .i64 w.kind, .str w.text, .int .i64 w.at_]
def decWq (r : List AVal) : WdD := ⟨intOf (r.getD 0 .undef), strOf (r.getD 1 .undef), (intOf (r.getD 2 .undef)).toNat⟩
theorem decWq_enc (w : WdD) : decWq (encWq w) = w := rfl
abbrev fltP (at_ e : Int) : AVal := .iface 69 (.agg [.int .i64 at_, .int .i64 e])
noncomputable def laySp : Lay := Lay.nil.addF 195 sSplitTold
theorem laySp_ok : laySp.OK Tryd.prog := Lay.nil_ok.addF sSplitTold_ok
theorem steps_fun (s : List UInt8) (n : Int) (k : Out → Ans) (n0 : Int) (e_n0 : n0 = ((↑s.length : Int)))
  (l1 : List UInt8) (e_l1 : l1 = (List.drop (Int.toNat 1) (List.take n0.toNat s)))
  (m2 : Nat) (e_m2 : m2 = ((splitM l1 [46]).length)) : iFun Tryd.prog (laySp.hd Tryd.prog) laySp.fhs 0 140 [.str s, .int .i64 n] [] k = (
  bif bif s == [46] then true else s == [] then k (Out.ret (AVal.list true 0 fun (x : Nat) => []) [])
  else
  bif decide (1 ≤ n0) && decide (n0 ≤ n0) then
  bif decide (l1.length < 4294967281) && true then
  bif !decide ((↑m2 : Int) ≤ 16) then
  k (Out.panic (AVal.iface 69 (AVal.agg [AVal.int IntKind.i64 n, AVal.int IntKind.i64 42])) [])
  else
  k
  (Out.ret
  (AVal.list true m2 fun (i : Nat) =>
  [AVal.str ((splitM (List.drop (Int.toNat 1) (List.take (↑s.length : Int).toNat s)) [46]).getD i [])])
  [])
  else none
  else none) := by
  subst e_n0 e_l1 e_m2
  kernel_rfl
def stepsM (s : List UInt8) : List (List UInt8) := bif s == [46] || s == [] then [] else splitM (s.drop 1) [46]
theorem steps_run (s : List UInt8) (n : Int) (h : s.length ≤ 1073741824) (hn : ¬ (s = [46] ∨ s = [])) (k : Out → Ans) : iFun Tryd.prog (laySp.hd Tryd.prog) laySp.fhs 0 140 [.str s, .int .i64 n] [] k =
    cond (decide ((stepsM s).length ≤ 16)) (k (.ret (encL true encS [] (stepsM s)) [])) (k (.panic (fltP n 42) [])) := by
  have e1 : (s.take ((s.length : Nat) : Int).toNat).drop (Int.toNat 1) = s.drop 1 := by rw [Int.toNat_natCast, List.take_length]; rfl
  have hb : (s == [46] || s == []) = false := by
    rw [Bool.or_eq_false_iff]
    exact ⟨by simpa using fun h => hn (.inl h), by simpa using fun h => hn (.inr h)⟩
  have hs : 1 ≤ s.length := by
    cases s with
    | nil => exact absurd (.inr rfl) hn
    | cons c t => simp
  have hm : stepsM s = splitM (s.drop 1) [46] := by unfold stepsM; rw [hb]; rfl
  rw [hm]
  refine (steps_fun s n k _ rfl (s.drop 1) e1.symm _ rfl).trans ?_
  have hb2 : (bif s == [46] then true else s == []) = false := by rw [← hb]; cases s == [46] <;> rfl
  rw [hb2, dT (by omega), dT (by omega), dT (by rw [List.length_drop]; omega), e1]
  simp only [cond_true, cond_false, Bool.and_self]
  by_cases h16 : (splitM (s.drop 1) [46]).length ≤ 16
  · rw [dT h16, dT (by omega)]; rfl
  · rw [dF h16, dF (by omega)]; rfl
theorem steps_ok (s : List UInt8) (n : Int) (h : s.length ≤ 1073741824) (h16 : (stepsM s).length ≤ 16) : CallOK Tryd.prog 140 [.str s, .int .i64 n] [] (.ret (encL true encS [] (stepsM s)) []) := by
  by_cases hn : s = [46] ∨ s = []
  · have hb : (bif s == [46] then true else s == []) = true := by
      rcases hn with rfl | rfl <;> rfl
    have hm : stepsM s = [] := by
      rcases hn with rfl | rfl <;> rfl
    rw [hm]
    have key : ∀ k, iFun Tryd.prog (laySp.hd Tryd.prog) laySp.fhs 0 140 [.str s, .int .i64 n] [] k = k (.ret (.list true 0 fun _ => []) []) := fun k => by
      refine (steps_fun s n k _ rfl _ rfl _ rfl).trans ?_
      rw [hb]; rfl
    exact (laySp_ok.callF (G := []) rfl key).sub (.refl _) ⟨Sub.list (fun h => h) (fun i hi => by omega), rfl⟩
  · exact laySp_ok.callF (G := []) rfl (fun k => (steps_run s n h hn k).trans (by rw [dT h16]; rfl))
theorem steps_bad (s : List UInt8) (n : Int) (h : s.length ≤ 1073741824) (h16 : ¬ (stepsM s).length ≤ 16) : CallOK Tryd.prog 140 [.str s, .int .i64 n] [] (.panic (fltP n 42) []) := by
  have hn : ¬ (s = [46] ∨ s = []) := by
    rintro (rfl | rfl)
    · exact h16 (by show (0:Nat) ≤ 16; omega)
    · exact h16 (by show (0:Nat) ≤ 16; omega)
  exact laySp_ok.call (fun k => (steps_run s n h hn k).trans (by rw [dF h16]; rfl))
def stepsB (s : List UInt8) : Bool := decide ((stepsM s).length ≤ 16)
def stepsTold : FSp := mkFS [.s, .i .i64] (fun xs => decide ((aS xs 0).length ≤ 1073741824)) (fun xs k => cond (stepsB (aS xs 0)) (k (.ret (encL true encS [] (stepsM (aS xs 0))) [])) (k (.panic (fltP (aI xs 1) 42) [])))
theorem stepsTold_ok : ∀ xs H k out, stepsTold xs H k = some out → ∃ o, CallOK Tryd.prog 140 xs H o ∧ k o = some out := mkFS_ok fun ys xs e h => by
  obtain ⟨s, n, rfl⟩ : ∃ s n, xs = [.str s, .int .i64 n] := ⟨_, _, e⟩
  replace h : s.length ≤ 1073741824 := of_decide_eq_true h
  show ∃ o, (∀ k : Out → Ans, cond (stepsB s) _ _ = k o) ∧ _
  by_cases h16 : (stepsM s).length ≤ 16
  · have : stepsB s = true := dT h16
    rw [this]
    exact ⟨_, fun k => rfl, steps_ok s n h h16⟩
  · have : stepsB s = false := dF h16
    rw [this]
    exact ⟨_, fun k => rfl, steps_bad s n h h16⟩
noncomputable def layAr : Lay := (((Lay.nil.addF 140 stepsTold).addF 141 sCutTold).addF 142 numTold).addF 77 constTold
theorem layAr_ok : layAr.OK Tryd.prog := (((Lay.nil_ok.addF stepsTold_ok).addF sCutTold_ok).addF numTold_ok).addF constTold_ok
theorem arg_fun (w : WdD) (k : Out → Ans) (n0 : Int) (e_n0 : n0 = ((↑w.at_ : Int)))
  (n1 : Int) (e_n1 : n1 = ((↑w.text.length : Int)))
  (l2 : List UInt8) (e_l2 : l2 = (List.drop (Int.toNat 1) (List.take n1.toNat w.text)))
  (l3 : List UInt8) (e_l3 : l3 = ((Lib.cut l2 [46]).snd.fst))
  (m4 : Nat) (e_m4 : m4 = (l3.length))
  (l5 : List UInt8) (e_l5 : l5 = (46 :: l3)) : iFun Tryd.prog (layAr.hd Tryd.prog) layAr.fhs 0 78 [.agg (encWq w)] [] k = (
  bif bif w.kind == 1 then decide (constM w.text ≥ 0) else false then
  k
  (Out.ret
  (AVal.agg
  [AVal.int IntKind.i64 (IntKind.i64.wrap (5 + constM w.text)), AVal.str [], AVal.list true 0 fun (x : Nat) => [],
  AVal.int IntKind.i64 0, AVal.str []])
  [])
  else
  bif w.kind == 2 then
  bif decide (w.text.length ≤ 1073741824) then
  bif stepsB w.text then
  k
  (Out.ret
  (AVal.agg
  [AVal.int IntKind.i64 1, AVal.str [],
  AVal.list true (stepsM w.text).length fun (i : Nat) => [AVal.str ((stepsM w.text).getD i [])],
  AVal.int IntKind.i64 0, AVal.str []])
  [])
  else k (Out.panic (fltP n0 42) [])
  else none
  else
  bif w.kind == 3 then
  bif decide (1 ≤ n1) && decide (n1 ≤ n1) then
  bif decide (l2.length < 4294967281) then
  bif (Lib.cut l2 [46]).snd.snd then
  bif decide (1 + m4 ≤ 4611686018427387904) then
  bif decide (l5.length ≤ 1073741824) then
  bif stepsB l5 then
  k
  (Out.ret
  (AVal.agg
  [AVal.int IntKind.i64 2, AVal.str (Lib.cut l2 [46]).fst,
  AVal.list true (stepsM l5).length fun (i : Nat) =>
  [AVal.str
  ((stepsM
  (46 ::
  (Lib.cut
  (List.drop (Int.toNat 1) (List.take (↑w.text.length : Int).toNat w.text))
  [46]).snd.fst)).getD
  i [])],
  AVal.int IntKind.i64 0, AVal.str []])
  [])
  else k (Out.panic (fltP n0 42) [])
  else none
  else none
  else
  bif decide (m4 ≤ 1073741824) then
  bif stepsB l3 then
  k
  (Out.ret
  (AVal.agg
  [AVal.int IntKind.i64 2, AVal.str (Lib.cut l2 [46]).fst,
  AVal.list true (stepsM l3).length fun (i : Nat) =>
  [AVal.str
  ((stepsM
  (Lib.cut (List.drop (Int.toNat 1) (List.take (↑w.text.length : Int).toNat w.text))
  [46]).snd.fst).getD
  i [])],
  AVal.int IntKind.i64 0, AVal.str []])
  [])
  else k (Out.panic (fltP n0 42) [])
  else none
  else none
  else none
  else
  bif w.kind == 4 then
  bif decide (w.text.length ≤ 1099511627776) then
  k
  (Out.ret
  (AVal.agg
  [AVal.int IntKind.i64 3, AVal.str [], AVal.list true 0 fun (x : Nat) => [],
  AVal.int IntKind.i64 (numM w.text).fst, AVal.str []])
  [])
  else none
  else
  bif !w.kind == 5 then
  k (Out.panic (AVal.iface 69 (AVal.agg [AVal.int IntKind.i64 n0, AVal.int IntKind.i64 33])) [])
  else
  k
  (Out.ret
  (AVal.agg
  [AVal.int IntKind.i64 4, AVal.str [], AVal.list true 0 fun (x : Nat) => [], AVal.int IntKind.i64 0,
  AVal.str w.text])
                [])) := by
  subst e_n0 e_n1 e_l2 e_l3 e_m4 e_l5
  kernel_rfl
def varRest (t : List UInt8) : List UInt8 := bif (Lib.cut t [46]).2.2 then 46 :: (Lib.cut t [46]).2.1 else (Lib.cut t [46]).2.1
def isC (w : WdD) : Bool := w.kind == 1 && decide (constM w.text ≥ 0)
def argE (w : WdD) : Int :=
  bif isC w then 0 else bif w.kind == 2 then (bif stepsB w.text then 0 else 42) else bif w.kind == 3 then (bif stepsB (varRest (w.text.drop 1)) then 0 else 42) else
  bif w.kind == 4 then 0 else bif w.kind == 5 then 0 else 33
def argA (w : WdD) : ArgD :=
  bif isC w then ⟨5 + constM w.text, [], true, [], 0, []⟩ else bif w.kind == 2 then ⟨1, [], true, stepsM w.text, 0, []⟩ else
  bif w.kind == 3 then ⟨2, (Lib.cut (w.text.drop 1) [46]).1, true, stepsM (varRest (w.text.drop 1)), 0, []⟩ else
  bif w.kind == 4 then ⟨3, [], true, [], (numM w.text).1, []⟩ else ⟨4, [], true, [], 0, w.text⟩
def okWd (w : WdD) : Prop := w.text.length ≤ 1048576 ∧ (w.kind = 3 → 1 ≤ w.text.length)
theorem const_lt (s : List UInt8) : -1 ≤ constM s ∧ constM s ≤ 2 := by
  unfold constM idxS
  simp only [List.any_cons, List.any_nil, List.findIdx_cons, List.findIdx_nil]
  cases s == cTrue <;> cases s == cFalse <;> cases s == cNil <;> decide
theorem cut_len (t : List UInt8) : (Lib.cut t [46]).2.1.length ≤ t.length := by
  unfold Lib.cut
  split
  · simp only [List.length_drop]; omega
  · simp
theorem nilA {a b c e : AVal} {r : Nat → List AVal} : Sub (.agg [a, b, .list true 0 r, c, e]) (.agg [a, b, encL true encS [] [], c, e]) :=
  .agg (.cons (.refl _) (.cons (.refl _) (.cons (Sub.list (fun h => h) (fun i hi => by omega)) (.refl _))))
theorem arg_ok (w : WdD) (h : okWd w) : CallOK Tryd.prog 78 [.agg (encWq w)] [] (bif argE w == 0 then .ret (.agg (encArg (argA w))) [] else .panic (fltP w.at_ (argE w)) []) := by
  obtain ⟨h1, h3⟩ := h
  have e1 : (w.text.take ((w.text.length : Nat) : Int).toNat).drop (Int.toNat 1) = w.text.drop 1 := by rw [Int.toNat_natCast, List.take_length]; rfl
  have hb : (bif w.kind == 1 then decide (constM w.text ≥ 0) else false) = isC w := bif_and
  have key := fun k => arg_fun w k _ rfl _ rfl (w.text.drop 1) e1.symm (Lib.cut (w.text.drop 1) [46]).2.1 rfl _ rfl _ rfl
  simp only [hb, e1] at key
  have hl := cut_len (w.text.drop 1)
  rw [List.length_drop] at hl
  unfold argE argA
  cases b0 : isC w with
  | true =>
    obtain ⟨c1, c2⟩ := const_lt w.text
    simp only [b0, cond_true, wrap_of (show -4611686018427387904 ≤ 5 + constM w.text by omega) (show 5 + constM w.text ≤ 4611686018427387904 by omega)] at key
    exact (layAr_ok.callF (G := []) rfl key).sub (.refl _) ⟨nilA, rfl⟩
  | false =>
    simp only [b0, cond_false] at key ⊢
    cases b2 : w.kind == 2 with
    | true =>
      simp only [b2, cond_true, dT (show w.text.length ≤ 1073741824 by omega)] at key ⊢
      cases bs : stepsB w.text with
      | true => simp only [bs, cond_true] at key ⊢; exact layAr_ok.callF (G := []) rfl key
      | false => simp only [bs, cond_false] at key ⊢; exact layAr_ok.call key
    | false =>
      simp only [b2, cond_false] at key ⊢
      cases b3 : w.kind == 3 with
      | true =>
        have h3' := h3 (by simpa using b3)
        have hv : varRest (w.text.drop 1) = bif (Lib.cut (w.text.drop 1) [46]).2.2 then 46 :: (Lib.cut (w.text.drop 1) [46]).2.1 else (Lib.cut (w.text.drop 1) [46]).2.1 := rfl
        simp only [b3, cond_true, dT (show (1 : Int) ≤ w.text.length by omega), dT (show (w.text.length : Int) ≤ w.text.length by omega), Bool.and_self, dT (show (w.text.drop 1).length < 4294967281 by rw [List.length_drop]; omega), dT (show 1 + (Lib.cut (w.text.drop 1) [46]).2.1.length ≤ 4611686018427387904 by omega), dT (show (46 :: (Lib.cut (w.text.drop 1) [46]).2.1).length ≤ 1073741824 by rw [List.length_cons]; omega), dT (show (Lib.cut (w.text.drop 1) [46]).2.1.length ≤ 1073741824 by omega)] at key ⊢
        rw [hv]
        cases bc : (Lib.cut (w.text.drop 1) [46]).2.2 with
        | true =>
          simp only [bc, cond_true] at key ⊢
          cases bs : stepsB (46 :: (Lib.cut (w.text.drop 1) [46]).2.1) with
          | true => simp only [bs, cond_true] at key ⊢; exact layAr_ok.callF (G := []) rfl key
          | false => simp only [bs, cond_false] at key ⊢; exact layAr_ok.call key
        | false =>
          simp only [bc, cond_false] at key ⊢
          cases bs : stepsB (Lib.cut (w.text.drop 1) [46]).2.1 with
          | true => simp only [bs, cond_true] at key ⊢; exact layAr_ok.callF (G := []) rfl key
          | false => simp only [bs, cond_false] at key ⊢; exact layAr_ok.call key
      | false =>
        simp only [b3, cond_false] at key ⊢
        cases b4 : w.kind == 4 with
        | true =>
          simp only [b4, cond_true, dT (show w.text.length ≤ 1099511627776 by omega)] at key ⊢
          exact (layAr_ok.callF (G := []) rfl key).sub (.refl _) ⟨nilA, rfl⟩
        | false =>
          simp only [b4, cond_false] at key ⊢
          cases b5 : w.kind == 5 with
          | true =>
            simp only [b5, Bool.not_true, cond_false, cond_true] at key ⊢
            exact (layAr_ok.callF (G := []) rfl key).sub (.refl _) ⟨nilA, rfl⟩
          | false =>
            simp only [b5, Bool.not_false, cond_false, cond_true] at key ⊢
            exact layAr_ok.call key
def wdR (xs : List AVal) : List AVal := match xs with | [.agg r] => r | _ => []
def wdOkR (r : List AVal) : Prop := okWd (decWq r)
def wdER (r : List AVal) : Bool := argE (decWq r) == 0
def wdEncR (r : List AVal) : AVal := .agg (encWq (decWq r))
def wdArgR (r : List AVal) : ArgD := argA (decWq r)
noncomputable def wdArgTold : FSp := mkF (fun xs H => wdR xs) wdOkR (fun r => [wdEncR r]) (fun _ => []) (fun r k => cond (wdER r) (k (.ret (.agg (encArg (wdArgR r))) [])) (k (.panic (fltP (decWq r).at_ (argE (decWq r))) [])))
theorem wdArgTold_ok : ∀ xs H k out, wdArgTold xs H k = some out → ∃ o, CallOK Tryd.prog 78 xs H o ∧ k o = some out := mkF_ok fun r h => by
  have key := arg_ok (decWq r) h
  show ∃ o, (∀ k : Out → Ans, cond (argE (decWq r) == 0) _ _ = k o) ∧ _
  cases hb : argE (decWq r) == 0 with
  | true => rw [hb] at key; exact ⟨_, fun k => rfl, key⟩
  | false => rw [hb] at key; exact ⟨_, fun k => rfl, key⟩
end Go.Mu
set_option linter.unusedVariables false
set_option linter.unusedSimpArgs false
set_option maxRecDepth 100000
namespace Go.Mu
open Go Go.Proofs
def gV (j n : Nat) : AVal := match n with
  | 0 => nilList
  | m + 1 => .own j 0 (m + 1) m false
def gH {α : Type} (sz : Nat) (E : α → List AVal) (l : List α) : Heap := match l with
  | [] => []
  | a :: r => [.arr sz ((a :: r).map E) r.length]
theorem g_snoc {α : Type} (j sz : Nat) (E : α → List AVal) (l : List α) (a : α) : gV j (l ++ [a]).length = .own j 0 (l.length + 1) l.length false ∧ gH sz E (l ++ [a]) = [.arr sz ((l ++ [a]).map E) l.length] := by
  cases l with
  | nil => exact ⟨rfl, rfl⟩
  | cons b r => simp [gV, gH]
abbrev wd0 : WdD := ⟨0, [], 0⟩
abbrev encWqs (f : Bool) (l : List WdD) : AVal := encL f encWq wd0 l
noncomputable def layCl : Lay := (layAr.addF 78 wdArgTold).addF 79 arTold
theorem layCl_ok : layCl.OK Tryd.prog := (layAr_ok.addF wdArgTold_ok).addF pArTold_ok
abbrev clV (ah : Bool) (le mo : Int) : List AVal := [.bool ah, .ptr (.tmp 4) 0, .ptr (.tmp 5) 0, .int .i64 le, .int .i64 mo, .ptr (.tmp 10) 0]
abbrev clB (w : WdD) (nm : List UInt8) (x : AVal) : List (List AVal) := [[.str [], nilList], encWq w, [.str nm, x]]
noncomputable abbrev clTurn := lturn Tryd.prog layCl {} 39 12 [1,4,5,7,8,10,59,60,61] [4,5,10] [1,4,5,7,8,10] [4,5,10]
theorem cl_s0 (ah : Bool) (le mo : Int) (w : WdD) (nm : List UInt8) (f : Bool) (l : List WdD) (n i : Int) (D : List (FuncId × List AVal)) (k : Kont) : clTurn (stL 103 [1,4,5,7,8,10,59,60,61] (clV ah le mo ++ [encWqs f l, .int .i64 n, .int .i64 i]) [4,5,10] (clB w nm nilList) [] D) k = (
  bif decide (i < n) then
  bif decide (0 ≤ i) && decide (i < (l.length : Int)) then
  bif !bif (l.getD i.toNat wd0).kind != 1 then true else decide (constM (l.getD i.toNat wd0).text ≥ 0) then
  k (.panic (fltP (l.getD i.toNat wd0).at_ 33)) (stL 103 [1,4,5,7,8,10] (clV ah le mo) [4,5,10] [[], [], []] [] D)
  else
  bif tst (okWd (l.getD i.toNat wd0) ∧ SubL [.agg (encWq (l.getD i.toNat wd0))] [.agg (encWq (l.getD i.toNat wd0))] ∧ ([] : Heap) = []) then
  bif argE (l.getD i.toNat wd0) == 0 then
  k .normal (stL 103 [1,4,5,7,8,10,59,60,61] (clV ah le mo ++ [encWqs f l, .int .i64 n, .int .i64 (IntKind.i64.wrap (i + 1))]) [4,5,10] (clB w nm (.own 0 0 (0 + 1) 0 false)) [.arr 5 [encArg (argA (l.getD i.toNat wd0))] 0] D)
  else k (.panic (fltP (l.getD i.toNat wd0).at_ (argE (l.getD i.toNat wd0)))) (stL 103 [1,4,5,7,8,10] (clV ah le mo) [4,5,10] [[], [], []] [] D)
  else none
  else none
  else k (.exit 0) (stL 103 [1,4,5,7,8,10] (clV ah le mo) [4,5,10] (clB w nm nilList) [] D)) := by kernel_rfl
theorem cl_s1 (ah : Bool) (le mo : Int) (w : WdD) (nm : List UInt8) (f : Bool) (l : List WdD) (n i : Int) (q v : Nat) (rows : List (List AVal)) (D : List (FuncId × List AVal)) (k : Kont) : clTurn (stL 103 [1,4,5,7,8,10,59,60,61] (clV ah le mo ++ [encWqs f l, .int .i64 n, .int .i64 i]) [4,5,10] (clB w nm (.own 0 0 q v false)) [.arr 5 rows v] D) k = (
  bif decide (i < n) then
  bif decide (0 ≤ i) && decide (i < (l.length : Int)) then
  bif !bif (l.getD i.toNat wd0).kind != 1 then true else decide (constM (l.getD i.toNat wd0).text ≥ 0) then
  k (.panic (fltP (l.getD i.toNat wd0).at_ 33)) (stL 103 [1,4,5,7,8,10] (clV ah le mo) [4,5,10] [[], [], []] [.arr 5 rows v] D)
  else
  bif tst (okWd (l.getD i.toNat wd0) ∧ SubL [.agg (encWq (l.getD i.toNat wd0))] [.agg (encWq (l.getD i.toNat wd0))] ∧ ([] : Heap) = []) then
  bif argE (l.getD i.toNat wd0) == 0 then
  bif v == v && q == rows.length && decide ((2 * (q + 1) + 1000) * 72 ≤ 281474976710656) && true then k .normal (stL 103 [1,4,5,7,8,10,59,60,61] (clV ah le mo ++ [encWqs f l, .int .i64 n, .int .i64 (IntKind.i64.wrap (i + 1))]) [4,5,10] (clB w nm (.own 0 0 (q + 1) (v + 1) false)) [.arr 5 (rows ++ [encArg (argA (l.getD i.toNat wd0))]) (v + 1)] D) else none
  else k (.panic (fltP (l.getD i.toNat wd0).at_ (argE (l.getD i.toNat wd0)))) (stL 103 [1,4,5,7,8,10] (clV ah le mo) [4,5,10] [[], [], []] [.arr 5 rows v] D)
  else none
  else none
  else k (.exit 0) (stL 103 [1,4,5,7,8,10] (clV ah le mo) [4,5,10] (clB w nm (.own 0 0 q v false)) [.arr 5 rows v] D)) := by kernel_rfl
def argsM : List WdD → List ArgD × Option (Nat × Int)
  | [] => ([], none)
  | w :: l => bif argE w == 0 then (argA w :: (argsM l).1, (argsM l).2) else ([], some (w.at_, argE w))
theorem argE_33 (w : WdD) (h : (!bif w.kind != 1 then true else decide (constM w.text ≥ 0)) = true) : argE w = 33 := by
  unfold argE isC
  cases h1 : w.kind == 1 with
  | false =>
    have : (w.kind != 1) = true := by simp [bne, h1]
    rw [this] at h; cases h
  | true =>
    have e : w.kind = 1 := by simpa using h1
    have : (w.kind != 1) = false := by simp [bne, h1]
    rw [this] at h
    simp only [cond_false, Bool.not_eq_true'] at h
    rw [h, e]; rfl
theorem cl_runs (ah : Bool) (le mo : Int) (w : WdD) (nm : List UInt8) (f : Bool) (l : List WdD) (hl : l.length ≤ 4294967296) (hw : ∀ x ∈ l, okWd x) : ∀ (m i : Nat) (bs : List ArgD), l.length - i ≤ m → i ≤ l.length → bs.length ≤ i →
    (∀ e, (argsM (l.drop i)).2 = some e → LoopRuns clTurn 103 [1,4,5,7,8,10,59,60,61] [4,5,10] [1,4,5,7,8,10] [4,5,10] (clV ah le mo ++ [encWqs f l, .int .i64 l.length, .int .i64 i]) (clB w nm (gV 0 bs.length)) (gH 5 encArg bs) (.panic (fltP e.1 e.2)) (clV ah le mo) [[], [], []] (gH 5 encArg (bs ++ (argsM (l.drop i)).1))) ∧
    ((argsM (l.drop i)).2 = none → LoopRuns clTurn 103 [1,4,5,7,8,10,59,60,61] [4,5,10] [1,4,5,7,8,10] [4,5,10] (clV ah le mo ++ [encWqs f l, .int .i64 l.length, .int .i64 i]) (clB w nm (gV 0 bs.length)) (gH 5 encArg bs) (.exit 0) (clV ah le mo) (clB w nm (gV 0 (bs ++ (argsM (l.drop i)).1).length)) (gH 5 encArg (bs ++ (argsM (l.drop i)).1))) := by
  intro m
  have fin : ∀ (i : Nat) (bs : List ArgD), ¬ i < l.length → LoopRuns clTurn 103 [1,4,5,7,8,10,59,60,61] [4,5,10] [1,4,5,7,8,10] [4,5,10] (clV ah le mo ++ [encWqs f l, .int .i64 l.length, .int .i64 i]) (clB w nm (gV 0 bs.length)) (gH 5 encArg bs) (.exit 0) (clV ah le mo) (clB w nm (gV 0 bs.length)) (gH 5 encArg bs) := fun i bs hi => by
    refine .stop (by simp) (fun D k => ?_)
    cases bs with
    | nil => exact (cl_s0 ah le mo w nm f l l.length i D k).trans (by rw [dF (by omega)]; rfl)
    | cons a r => exact (cl_s1 ah le mo w nm f l l.length i _ _ _ D k).trans (by rw [dF (by omega)]; rfl)
  induction m with
  | zero =>
    intro i bs hm hi ha
    have e : l.drop i = [] := List.drop_eq_nil_of_le (by omega)
    rw [e]
    refine ⟨fun e he => (by cases he), fun _ => ?_⟩
    rw [show (argsM []).1 = [] from rfl, List.append_nil]
    exact fin i bs (by omega)
  | succ m ih =>
    intro i bs hm hi ha
    by_cases hlt : i < l.length
    case neg =>
      have e : l.drop i = [] := List.drop_eq_nil_of_le (by omega)
      rw [e]
      refine ⟨fun e he => (by cases he), fun _ => ?_⟩
      rw [show (argsM []).1 = [] from rfl, List.append_nil]
      exact fin i bs hlt
    obtain ⟨x, hx⟩ : ∃ x, x = l.getD i wd0 := ⟨_, rfl⟩
    have hwx : okWd x := hw x (by rw [hx, List.getD_eq_getElem?_getD, List.getElem?_eq_getElem hlt]; exact List.getElem_mem _)
    have ed := drop_cons_of l i wd0 hlt
    rw [← hx] at ed
    have e2 : IntKind.i64.wrap ((i : Int) + 1) = ((i + 1 : Nat) : Int) := wrap_add1 (by omega)
    have k0 := fun D k => cl_s0 ah le mo w nm f l l.length i D k
    have k1 := fun q v rows D k => cl_s1 ah le mo w nm f l l.length i q v rows D k
    have ht : tst (okWd x ∧ SubL [.agg (encWq x)] [.agg (encWq x)] ∧ True) = true := tst_true ⟨hwx, .refl _, trivial⟩
    simp only [ht, dT (show (i : Int) < l.length by omega), dT (show (0 : Int) ≤ i by omega), Int.toNat_natCast, ← hx, Bool.and_self, cond_true, e2] at k0 k1
    rw [ed, argsM]
    cases hb : (!bif x.kind != 1 then true else decide (constM x.text ≥ 0)) with
    | true =>
      have e33 := argE_33 x hb
      simp only [hb, cond_true] at k0 k1
      rw [e33]
      refine ⟨fun e he => ?_, fun h => by cases h⟩
      cases he
      show LoopRuns _ _ _ _ _ _ _ _ _ _ _ _ (gH 5 encArg (bs ++ []))
      rw [List.append_nil]
      refine .stop (by simp) (fun D k => ?_)
      cases bs with
      | nil => exact k0 D k
      | cons a r => exact k1 _ _ _ D k
    | false =>
      simp only [hb, cond_false] at k0 k1
      cases ha0 : argE x == 0 with
      | false =>
        refine ⟨fun e he => ?_, fun h => by cases h⟩
        cases he
        show LoopRuns _ _ _ _ _ _ _ _ _ _ _ _ (gH 5 encArg (bs ++ []))
        rw [List.append_nil]
        refine .stop (by simp) (fun D k => ?_)
        cases bs with
        | nil => exact (k0 D k).trans (by simp only [ha0]; rfl)
        | cons a r => exact (k1 _ _ _ D k).trans (by simp only [ha0]; rfl)
      | true =>
        have ih2 := ih (i + 1) (bs ++ [argA x]) (by omega) (by omega) (by rw [List.length_append]; show _ + 1 ≤ _; omega)
        obtain ⟨s1, s2⟩ := g_snoc 0 5 encArg bs (argA x)
        rw [s1, s2, List.append_assoc, List.singleton_append] at ih2
        have hstep : ∀ D k, clTurn (stL 103 [1,4,5,7,8,10,59,60,61] (clV ah le mo ++ [encWqs f l, .int .i64 l.length, .int .i64 i]) [4,5,10] (clB w nm (gV 0 bs.length)) (gH 5 encArg bs) D) k =
            k .normal (stL 103 [1,4,5,7,8,10,59,60,61] (clV ah le mo ++ [encWqs f l, .int .i64 l.length, .int .i64 ((i + 1 : Nat) : Int)]) [4,5,10] (clB w nm (.own 0 0 (bs.length + 1) bs.length false)) [.arr 5 ((bs ++ [argA x]).map encArg) bs.length] D) := fun D k => by
          cases bs with
          | nil => exact (k0 D k).trans (by simp only [ha0]; rfl)
          | cons a r =>
            refine (k1 _ _ _ D k).trans ?_
            simp only [ha0]
            rw [List.length_cons] at ha
            have hq : (r.length + 1 == ((a :: r).map encArg).length) = true := by simp
            rw [hq, beq_self_eq_true, dT (show (2 * (r.length + 1 + 1) + 1000) * 72 ≤ 281474976710656 by omega)]
            have hr : (a :: r).map encArg ++ [encArg (argA x)] = (a :: r ++ [argA x]).map encArg := by simp
            rw [hr]
            rfl
        refine ⟨fun e he => ?_, fun he => ?_⟩
        · exact .step hstep (ih2.1 e he)
        · exact .step hstep (ih2.2 he)
structure ClA where
  ah : Bool
  le : Int
  mo : Int
  wk : Int
  wt : List UInt8
  wn : Nat
  nm : List UInt8
  x : AVal
def encWqsR (x : AVal) : AVal := encWqs (fullOf x) (decL decWq x)
def lenWqR (x : AVal) : Nat := (decL decWq x).length
def clOk (x : AVal) : Prop := lenWqR x ≤ 4294967296 ∧ ∀ w ∈ decL decWq x, okWd w
def clBad (x : AVal) : Bool := (argsM (decL decWq x)).2.isSome
def clAt (x : AVal) : Int := ((argsM (decL decWq x)).2.getD (0, 0)).1
def clErr (x : AVal) : Int := ((argsM (decL decWq x)).2.getD (0, 0)).2
def clNum (x : AVal) : Nat := (argsM (decL decWq x)).1.length
def clRows (x : AVal) : List (List AVal) := (argsM (decL decWq x)).1.map encArg
def clG (x : AVal) : Heap := gH 5 encArg (argsM (decL decWq x)).1
noncomputable def clSp : LSp := mkL (fun vs bs _ => ClA.mk (aB vs 0) (aI vs 3) (aI vs 4) (aI (bs.getD 1 []) 0) (aS (bs.getD 1 []) 1) (aI (bs.getD 1 []) 2).toNat (strOf ((bs.getD 2 []).getD 0 .undef)) (vs.getD 6 .undef)) (fun a => clOk a.x) (fun a => clV a.ah a.le a.mo ++ [encWqsR a.x, .int .i64 (lenWqR a.x : Nat), .int .i64 0]) (fun a => clB ⟨a.wk, a.wt, a.wn⟩ a.nm nilList) (fun _ => [])
  (fun a k => cond (clBad a.x) (k (.panic (fltP (clAt a.x) (clErr a.x))) (clV a.ah a.le a.mo) [[], [], []] (clG a.x))
    (cond (clNum a.x == 0) (k (.exit 0) (clV a.ah a.le a.mo) (clB ⟨a.wk, a.wt, a.wn⟩ a.nm nilList) [])
      (k (.exit 0) (clV a.ah a.le a.mo) (clB ⟨a.wk, a.wt, a.wn⟩ a.nm (.own 0 0 (clNum a.x) (clNum a.x - 1) false)) [.arr 5 (clRows a.x) (clNum a.x - 1)])))
theorem clSp_ok : SpOK clTurn 103 [1,4,5,7,8,10,59,60,61] [4,5,10] [1,4,5,7,8,10] [4,5,10] clSp := mkL_ok fun a h => by
  obtain ⟨ah, le, mo, wk, wt, wn, nm, x⟩ := a
  obtain ⟨r1, r2⟩ := cl_runs ah le mo ⟨wk, wt, wn⟩ nm (fullOf x) (decL decWq x) h.1 h.2 _ 0 [] (Nat.le_refl _) (Nat.zero_le _) (Nat.le_refl _)
  rw [List.drop_zero, List.nil_append] at r1 r2
  show ∃ e vs bs H, (∀ k : AExit → List AVal → List (List AVal) → Heap → Ans, cond (clBad x) _ _ = k e vs bs H) ∧ _
  cases hb : (argsM (decL decWq x)).2 with
  | some e =>
    have e1 : clBad x = true := by unfold clBad; rw [hb]; rfl
    have e2 : clAt x = e.1 := by unfold clAt; rw [hb]; rfl
    have e3 : clErr x = e.2 := by unfold clErr; rw [hb]; rfl
    rw [e1, e2, e3]
    exact ⟨_, _, _, _, fun k => rfl, r1 e hb⟩
  | none =>
    have e1 : clBad x = false := by unfold clBad; rw [hb]; rfl
    have r := r2 hb
    rw [e1]
    unfold clNum clRows
    cases ha : (argsM (decL decWq x)).1 with
    | nil => rw [ha] at r; exact ⟨_, _, _, _, fun k => rfl, r⟩
    | cons b t => rw [ha] at r; exact ⟨_, _, _, _, fun k => rfl, r⟩
noncomputable def clFH : FH := .of [(12, loopSpec 103 [1,4,5,7,8,10,59,60,61] [4,5,10] [1,4,5,7,8,10] [4,5,10] clSp)]
theorem cl_turn_eq : lturn Tryd.prog layCl clFH 39 12 [1,4,5,7,8,10,59,60,61] [4,5,10] [1,4,5,7,8,10] [4,5,10] = clTurn := by kernel_rfl
noncomputable def layCl2 : Lay := layCl.addL 39 clFH
theorem layCl2_ok : layCl2.OK Tryd.prog := layCl_ok.loop1 (id := 12) (by kernel_rfl) (by kernel_rfl) (by kernel_rfl) (by rw [cl_turn_eq]; exact clSp_ok)
theorem cal_fun (f : Bool) (w : WdD) (l : List WdD) (ah : Bool) (k : Out → Ans) (n0 : Int) (e_n0 : n0 = ((↑(w :: l).length : Int)))
  (n1 : Int) (e_n1 : n1 = ((↑w.at_ : Int)))
  (m2 : Nat) (e_m2 : m2 = (n1.toNat))
  (n3 : Int) (e_n3 : n3 = ((↑m2 : Int)))
  (m4 : Nat) (e_m4 : m4 = ((n0 - 1).toNat))
  (n5 : Int) (e_n5 : n5 = ((ar w.text).fst))
  (n6 : Int) (e_n6 : n6 = ((ar w.text).snd.fst))
  (m7 : Nat) (e_m7 : m7 = (clNum (AVal.list (f && n0 == n0) m4 fun (i : Nat) => encWq ((w :: l).getD (Int.toNat 1 + i) wd0))))
  (n8 : Int) (e_n8 : n8 = ((↑m7 : Int)))
  (n9 : Int) (e_n9 : n9 = (IntKind.i64.wrap (n8 + 1)))
  (m10 : Nat) (e_m10 : m10 = (m7 - 1)) : iFun Tryd.prog (layCl2.hd Tryd.prog) layCl2.fhs 0 39 [encWqs f (w :: l), .bool ah] [] k = (
  bif decide (0 < n0) then
  bif bif w.kind != 1 then true else decide (constM w.text ≥ 0) then
  bif !!ah then k (Out.panic (AVal.iface 69 (AVal.agg [AVal.int IntKind.i64 n1, AVal.int IntKind.i64 33])) [])
  else
  bif
  tst
  (wdOkR (wdR [AVal.agg [AVal.int IntKind.i64 w.kind, AVal.str w.text, AVal.int IntKind.i64 n1]]) ∧
  SubL [AVal.agg [AVal.int IntKind.i64 w.kind, AVal.str w.text, AVal.int IntKind.i64 n1]]
  [wdEncR (wdR [AVal.agg [AVal.int IntKind.i64 w.kind, AVal.str w.text, AVal.int IntKind.i64 n1]])] ∧
  ([] : Heap) = []) then
  bif wdER (wdR [AVal.agg [AVal.int IntKind.i64 w.kind, AVal.str w.text, AVal.int IntKind.i64 n1]]) then
  bif decide (n0 > 1) then
  bif decide (1 < n0) then
  k
  (Out.panic
  (AVal.iface 69
  (AVal.agg
  [AVal.int IntKind.i64 (↑((w :: l).getD 1 wd0).at_ : Int), AVal.int IntKind.i64 33]))
  [])
  else none
  else
  k
  (Out.ret
  (AVal.agg
  [AVal.str [],
  AVal.list true 1 fun (i : Nat) =>
  [[AVal.int IntKind.i64
  (wdArgR
  (wdR
  [AVal.agg
  [AVal.int IntKind.i64 w.kind, AVal.str w.text,
  AVal.int IntKind.i64 (↑w.at_ : Int)]])).kind,
  AVal.str
  (wdArgR
  (wdR
  [AVal.agg
  [AVal.int IntKind.i64 w.kind, AVal.str w.text,
  AVal.int IntKind.i64 (↑w.at_ : Int)]])).name,
  AVal.list
  (wdArgR
  (wdR
  [AVal.agg
  [AVal.int IntKind.i64 w.kind, AVal.str w.text,
  AVal.int IntKind.i64 (↑w.at_ : Int)]])).pf
  (wdArgR
  (wdR
  [AVal.agg
  [AVal.int IntKind.i64 w.kind, AVal.str w.text,
  AVal.int IntKind.i64 (↑w.at_ : Int)]])).path.length
  fun (i : Nat) =>
  [AVal.str
  ((wdArgR
  (wdR
  [AVal.agg
  [AVal.int IntKind.i64 w.kind, AVal.str w.text,
  AVal.int IntKind.i64 (↑w.at_ : Int)]])).path.getD
  i [])],
  AVal.int IntKind.i64
  (wdArgR
  (wdR
  [AVal.agg
  [AVal.int IntKind.i64 w.kind, AVal.str w.text,
  AVal.int IntKind.i64 (↑w.at_ : Int)]])).int,
  AVal.str
  (wdArgR
  (wdR
  [AVal.agg
  [AVal.int IntKind.i64 w.kind, AVal.str w.text,
  AVal.int IntKind.i64 (↑w.at_ : Int)]])).text]].getD
  i []])
  [])
  else k (Out.panic (fltP n3 (argE (WdD.mk w.kind w.text m2))) [])
  else none
  else
  bif !(ar w.text).snd.snd then
  k (Out.panic (AVal.iface 69 (AVal.agg [AVal.int IntKind.i64 n1, AVal.int IntKind.i64 31])) [])
  else
  bif decide (1 ≤ n0) && decide (n0 ≤ n0) then
  bif
  tst
  (clOk
  (AVal.list (f && n0 == n0) m4 fun (i : Nat) =>
  encWq ((w :: l).getD (Int.toNat 1 + i) wd0)) ∧
  SubTL
  [AVal.bool ah, AVal.ptr (Oid.tmp 4) 0, AVal.ptr (Oid.tmp 5) 0, AVal.int IntKind.i64 n5,
  AVal.int IntKind.i64 n6, AVal.ptr (Oid.tmp 10) 0,
  AVal.list (f && n0 == n0) m4 fun (i : Nat) =>
  encWq ((w :: l).getD (Int.toNat 1 + i) wd0),
  AVal.int IntKind.i64 (↑m4 : Int), AVal.int IntKind.i64 0]
  [AVal.bool ah, AVal.ptr (Oid.tmp 4) 0, AVal.ptr (Oid.tmp 5) 0, AVal.int IntKind.i64 n5,
  AVal.int IntKind.i64 n6, AVal.ptr (Oid.tmp 10) 0,
  encWqsR
  (AVal.list (f && n0 == n0) m4 fun (i : Nat) =>
  encWq ((w :: l).getD (Int.toNat 1 + i) wd0)),
  AVal.int IntKind.i64
  (↑(lenWqR
  (AVal.list (f && n0 == n0) m4 fun (i : Nat) =>
  encWq ((w :: l).getD (Int.toNat 1 + i) wd0))) :
  Int),
  AVal.int IntKind.i64 0] ∧
  [[AVal.str [], AVal.list true 0 fun (x : Nat) => []],
  [AVal.int IntKind.i64 w.kind, AVal.str w.text, AVal.int IntKind.i64 n1],
  [AVal.str w.text, AVal.list true 0 fun (x : Nat) => []]] =
  clB (WdD.mk w.kind w.text m2) w.text (AVal.list true 0 fun (x : Nat) => []) ∧
  ([] : Heap) = []) then
  bif
  clBad
  (AVal.list (f && n0 == n0) m4 fun (i : Nat) =>
  encWq ((w :: l).getD (Int.toNat 1 + i) wd0)) then
  k
  (Out.panic
  (fltP
  (clAt
  (AVal.list (f && n0 == n0) m4 fun (i : Nat) =>
  encWq ((w :: l).getD (Int.toNat 1 + i) wd0)))
  (clErr
  (AVal.list (f && n0 == n0) m4 fun (i : Nat) =>
  encWq ((w :: l).getD (Int.toNat 1 + i) wd0))))
  (clG
  (AVal.list (f && n0 == n0) m4 fun (i : Nat) =>
  encWq ((w :: l).getD (Int.toNat 1 + i) wd0))))
  else
  bif m7 == 0 then
  bif ah then
  bif !bif decide (1 ≥ n5) then decide (1 ≤ n6) else false then
  k (Out.panic (AVal.iface 69 (AVal.agg [AVal.int IntKind.i64 n3, AVal.int IntKind.i64 3])) [])
  else k (Out.ret (AVal.agg [AVal.str w.text, AVal.list true 0 fun (x : Nat) => []]) [])
  else
  bif !bif decide (0 ≥ n5) then decide (0 ≤ n6) else false then
  k (Out.panic (AVal.iface 69 (AVal.agg [AVal.int IntKind.i64 n3, AVal.int IntKind.i64 3])) [])
  else k (Out.ret (AVal.agg [AVal.str w.text, AVal.list true 0 fun (x : Nat) => []]) [])
  else
  bif ah then
  bif !bif decide (n9 ≥ n5) then decide (n9 ≤ n6) else false then
  k
  (Out.panic (AVal.iface 69 (AVal.agg [AVal.int IntKind.i64 n3, AVal.int IntKind.i64 3]))
  [Obj.arr 5
  (clRows
  (AVal.list (f && n0 == n0) m4 fun (i : Nat) =>
  encWq ((w :: l).getD (Int.toNat 1 + i) wd0)))
  m10])
  else
  k
  (Out.ret (AVal.agg [AVal.str w.text, AVal.own 0 0 m7 m10 false])
  [Obj.arr 5
  (clRows
  (AVal.list (f && n0 == n0) m4 fun (i : Nat) =>
  encWq ((w :: l).getD (Int.toNat 1 + i) wd0)))
  m10])
  else
  bif !bif decide (n8 ≥ n5) then decide (n8 ≤ n6) else false then
  k
  (Out.panic (AVal.iface 69 (AVal.agg [AVal.int IntKind.i64 n3, AVal.int IntKind.i64 3]))
  [Obj.arr 5
  (clRows
  (AVal.list (f && n0 == n0) m4 fun (i : Nat) =>
  encWq ((w :: l).getD (Int.toNat 1 + i) wd0)))
  m10])
  else
  k
  (Out.ret (AVal.agg [AVal.str w.text, AVal.own 0 0 m7 m10 false])
  [Obj.arr 5
  (clRows
  (AVal.list (f && n0 == n0) m4 fun (i : Nat) =>
  encWq ((w :: l).getD (Int.toNat 1 + i) wd0)))
  m10])
  else none
  else none
  else none) := by
  subst e_n0 e_n1 e_m2 e_n3 e_m4 e_n5 e_n6 e_m7 e_n8 e_n9 e_m10
  kernel_rfl
def isName (w : WdD) : Bool := !bif w.kind != 1 then true else decide (constM w.text ≥ 0)
def calE (w : WdD) (r : List WdD) (ah : Bool) : Option (Nat × Int) :=
  bif isName w then
    bif !(ar w.text).2.2 then some (w.at_, 31) else
    match (argsM r).2 with
    | some e => some e
    | none => bif decide ((((argsM r).1.length + (bif ah then 1 else 0) : Nat) : Int) ≥ (ar w.text).1) && decide ((((argsM r).1.length + (bif ah then 1 else 0) : Nat) : Int) ≤ (ar w.text).2.1) then none else some (w.at_, 3)
  else
    bif ah then some (w.at_, 33) else bif argE w == 0 then (match r with | [] => none | x :: _ => some (x.at_, 33)) else some (w.at_, argE w)
def calC (w : WdD) (r : List WdD) : CallD := bif isName w then ⟨w.text, false, (argsM r).1⟩ else ⟨[], false, [argA w]⟩
theorem freeze_call (l : List ArgD) (u : Nat) (s : List UInt8) : freezeV [.arr 5 (l.map encArg) u] 5 (.agg [.str s, .own 0 0 l.length u false]) = some (.agg [.str s, .list false l.length (fun i => (l.map encArg).getD i [])]) := by
  have h1 : freezeV [.arr 5 (l.map encArg) u] 4 (.own 0 0 l.length u false) = some (.list false l.length (fun i => (l.map encArg).getD i [])) :=
    freezeW (sz := 5) (rows := l.map encArg) (rows' := l.map encArg) rfl (by simp) (by
      rw [List.drop_zero, List.take_of_length_le (by simp)]
      exact freeze_pures _ 2 _ (fun r hr => by
        obtain ⟨a, _, rfl⟩ := List.mem_map.1 hr
        rfl))
  show ([AVal.str s, .own 0 0 l.length u false].mapM (freezeV [.arr 5 (l.map encArg) u] 4)).map AVal.agg = _
  rw [List.mapM_cons, List.mapM_cons, h1]
  rfl
theorem sub_call (l : List ArgD) (s : List UInt8) : Sub (.agg [.str s, .list false l.length (fun i => (l.map encArg).getD i [])]) (.agg (encCall ⟨s, false, l⟩)) := by
  refine .agg (.cons (.refl _) (.cons (Sub.list (fun h => h) (fun i hi => ?_)) .nil))
  have : (l.map encArg).getD i [] = encArg (l.getD i argD0) := by
    rw [List.getD_eq_getElem?_getD, List.getD_eq_getElem?_getD, List.getElem?_map, List.getElem?_eq_getElem hi]
    rfl
  rw [this]
  exact .refl _
theorem decWqs_enc (f : Bool) (r : List WdD) : decL decWq (AVal.list f r.length fun (i : Nat) => encWq (r.getD i wd0)) = r := decL_encL decWq_enc r
theorem cal_ok (f : Bool) (w : WdD) (r : List WdD) (ah : Bool) (hl : r.length ≤ 67108864) (hw : okWd w) (hr : ∀ x ∈ r, okWd x) :
    CallOK Tryd.prog 39 [encWqs f (w :: r), .bool ah] [] (match calE w r ah with | some e => .panic (fltP e.1 e.2) [] | none => .ret (.agg (encCall (calC w r))) []) := by
  have g1 : ∀ i, (w :: r).getD (Int.toNat 1 + i) wd0 = r.getD i wd0 := fun i => by
    rw [show Int.toNat 1 + i = i + 1 from Nat.add_comm _ _]; rfl
  have dX := decWqs_enc f r
  have n0 : ((w :: r).length : Int) = (r.length : Int) + 1 := by simp
  have key := fun k => cal_fun f w r ah k ((r.length : Int) + 1) n0.symm (w.at_ : Int) rfl w.at_ (Int.toNat_natCast _).symm (w.at_ : Int) rfl r.length (by omega) _ rfl _ rfl _ rfl _ rfl _ rfl _ rfl
  simp only [g1, beq_self_eq_true, Bool.and_true] at key
  have c1 : encWqsR (AVal.list f r.length fun (i : Nat) => encWq (r.getD i wd0)) = AVal.list f r.length fun (i : Nat) => encWq (r.getD i wd0) := by unfold encWqsR; rw [dX]; rfl
  have c2 : lenWqR (AVal.list f r.length fun (i : Nat) => encWq (r.getD i wd0)) = r.length := by unfold lenWqR; rw [dX]
  have c3 : clBad (AVal.list f r.length fun (i : Nat) => encWq (r.getD i wd0)) = (argsM r).2.isSome := by unfold clBad; rw [dX]
  have c4 : clNum (AVal.list f r.length fun (i : Nat) => encWq (r.getD i wd0)) = (argsM r).1.length := by unfold clNum; rw [dX]
  have c5 : clRows (AVal.list f r.length fun (i : Nat) => encWq (r.getD i wd0)) = (argsM r).1.map encArg := by unfold clRows; rw [dX]
  have c6 : clOk (AVal.list f r.length fun (i : Nat) => encWq (r.getD i wd0)) := ⟨by rw [c2]; omega, by rw [dX]; exact hr⟩
  have c7 : clAt (AVal.list f r.length fun (i : Nat) => encWq (r.getD i wd0)) = (((argsM r).2.getD (0, 0)).1 : Int) := by unfold clAt; rw [dX]
  have c8 : clErr (AVal.list f r.length fun (i : Nat) => encWq (r.getD i wd0)) = ((argsM r).2.getD (0, 0)).2 := by unfold clErr; rw [dX]
  have c9 : clG (AVal.list f r.length fun (i : Nat) => encWq (r.getD i wd0)) = gH 5 encArg (argsM r).1 := by unfold clG; rw [dX]
  have al : (argsM r).1.length ≤ r.length := by
    clear key c1 c2 c3 c4 c5 c6 c7 c8 c9 dX g1 n0 hl hr
    induction r with
    | nil => exact Nat.le_refl _
    | cons x r ih =>
      rw [argsM]
      cases argE x == 0
      · simp
      · simpa using ih
  have e1 : IntKind.i64.wrap (((argsM r).1.length : Int) + 1) = (((argsM r).1.length + 1 : Nat) : Int) := wrap_add1 (by omega)
  simp only [c1, c2, c3, c4, c5, c7, c8, c9, e1, dT (show (0 : Int) < (r.length : Int) + 1 by omega), dT (show (1 : Int) ≤ (r.length : Int) + 1 by omega), dT (show (r.length : Int) + 1 ≤ (r.length : Int) + 1 by omega), cond_true, Bool.and_self, Bool.not_not] at key
  unfold calE calC isName
  cases hb : bif w.kind != 1 then true else decide (constM w.text ≥ 0) with
  | true =>
    simp only [hb, cond_true, Bool.not_true, cond_false] at key ⊢
    cases ah with
    | true => exact layCl2_ok.call key
    | false =>
      have r1 : wdR [AVal.agg [AVal.int IntKind.i64 w.kind, AVal.str w.text, AVal.int IntKind.i64 (w.at_ : Int)]] = encWq w := rfl
      simp only [r1, cond_false] at key ⊢
      have t1 : tst (wdOkR (encWq w) ∧ SubL [AVal.agg [AVal.int IntKind.i64 w.kind, AVal.str w.text, AVal.int IntKind.i64 (w.at_ : Int)]] [wdEncR (encWq w)] ∧ True) = true := tst_true ⟨hw, .refl _, trivial⟩
      simp only [t1, cond_true] at key
      have t2 : wdER (encWq w) = (argE w == 0) := rfl
      rw [t2] at key
      cases h0 : argE w == 0 with
      | false =>
        simp only [h0, cond_false] at key ⊢
        exact layCl2_ok.call key
      | true =>
        simp only [h0, cond_true] at key ⊢
        cases r with
        | nil =>
          simp only [List.length_nil] at key
          exact (layCl2_ok.callF (G := []) rfl key).sub (.refl _) ⟨.agg (.cons (.refl _) (.cons (Sub.list (fun h => by cases h) (fun i hi => by
            obtain rfl : i = 0 := by omega
            exact .refl _)) .nil)), rfl⟩
        | cons x r =>
          simp only [List.length_cons, dT (show ((r.length + 1 : Nat) : Int) + 1 > 1 by omega), dT (show (1 : Int) < ((r.length + 1 : Nat) : Int) + 1 by omega), cond_true] at key
          exact layCl2_ok.call key
  | false =>
    simp only [hb, cond_false, Bool.not_false, cond_true] at key ⊢
    cases h2 : (ar w.text).2.2 with
    | false =>
      simp only [h2, Bool.not_false, cond_true] at key ⊢
      exact layCl2_ok.call key
    | true =>
      simp only [h2, Bool.not_true, cond_false] at key ⊢
      replace key := fun k => (key k).trans ((congrArg (fun c => cond c _ none) (tst_true ⟨c6, .refl _, by first | trivial | rfl, trivial⟩)).trans (cond_true _ _))
      cases h3 : (argsM r).2 with
      | some e =>
        simp only [h3, Option.isSome_some, cond_true, Option.getD_some] at key ⊢
        have hc := layCl2_ok.call key
        cases ha : (argsM r).1 with
        | nil => rw [ha] at hc; exact hc
        | cons a t => rw [ha] at hc; exact CallOK.shrinkP (H := []) (H' := []) hc (Nat.le_refl _) rfl (fun x hx => by cases hx)
      | none =>
        simp only [h3, Option.isSome_none, cond_false, bif_and] at key ⊢
        cases hA : (argsM r).1 with
        | nil =>
          simp only [hA, List.length_nil, beq_self_eq_true, cond_true] at key ⊢
          have nl : Sub (.agg [.str w.text, nilList]) (.agg (encCall ⟨w.text, false, []⟩)) := .agg (.cons (.refl _) (.cons (Sub.list (fun h => by cases h) (fun i hi => by omega)) .nil))
          cases ah with
          | true =>
            have e : (decide (((0 + (bif true then 1 else 0) : Nat) : Int) ≥ (ar w.text).1) && decide (((0 + (bif true then 1 else 0) : Nat) : Int) ≤ (ar w.text).2.1)) = (decide ((1 : Int) ≥ (ar w.text).1) && decide ((1 : Int) ≤ (ar w.text).2.1)) := rfl
            rw [e]
            simp only [cond_true] at key
            cases hc : decide ((1 : Int) ≥ (ar w.text).1) && decide ((1 : Int) ≤ (ar w.text).2.1) with
            | true => simp only [hc, Bool.not_true, cond_false] at key; exact (layCl2_ok.callF (G := []) rfl key).sub (.refl _) ⟨nl, rfl⟩
            | false => simp only [hc, Bool.not_false, cond_true] at key; exact layCl2_ok.call key
          | false =>
            have e : (decide (((0 + (bif false then 1 else 0) : Nat) : Int) ≥ (ar w.text).1) && decide (((0 + (bif false then 1 else 0) : Nat) : Int) ≤ (ar w.text).2.1)) = (decide ((0 : Int) ≥ (ar w.text).1) && decide ((0 : Int) ≤ (ar w.text).2.1)) := rfl
            rw [e]
            simp only [cond_false] at key
            cases hc : decide ((0 : Int) ≥ (ar w.text).1) && decide ((0 : Int) ≤ (ar w.text).2.1) with
            | true => simp only [hc, Bool.not_true, cond_false] at key; exact (layCl2_ok.callF (G := []) rfl key).sub (.refl _) ⟨nl, rfl⟩
            | false => simp only [hc, Bool.not_false, cond_true] at key; exact layCl2_ok.call key
        | cons a t =>
          have fz := freeze_call (a :: t) t.length w.text
          have fs := sub_call (a :: t) w.text
          have ne : ((a :: t).length == 0) = false := rfl
          simp only [hA, ne, cond_false] at key ⊢
          cases ah with
          | true =>
            have e : (((a :: t).length + (bif true then 1 else 0) : Nat) : Int) = (((a :: t).length + 1 : Nat) : Int) := rfl
            rw [e]
            simp only [cond_true] at key
            cases hc : decide ((((a :: t).length + 1 : Nat) : Int) ≥ (ar w.text).1) && decide ((((a :: t).length + 1 : Nat) : Int) ≤ (ar w.text).2.1) with
            | true =>
              simp only [hc, Bool.not_true, cond_false] at key
              exact ((layCl2_ok.call key).freeze (d := 5) fz).sub (.refl _) ⟨fs, rfl⟩
            | false =>
              simp only [hc, Bool.not_false, cond_true] at key
              exact CallOK.shrinkP (H := []) (H' := []) (layCl2_ok.call key) (Nat.le_refl _) rfl (fun x hx => by cases hx)
          | false =>
            have e : (((a :: t).length + (bif false then 1 else 0) : Nat) : Int) = (((a :: t).length : Nat) : Int) := rfl
            rw [e]
            simp only [cond_false] at key
            cases hc : decide ((((a :: t).length : Nat) : Int) ≥ (ar w.text).1) && decide ((((a :: t).length : Nat) : Int) ≤ (ar w.text).2.1) with
            | true =>
              simp only [hc, Bool.not_true, cond_false] at key
              exact ((layCl2_ok.call key).freeze (d := 5) fz).sub (.refl _) ⟨fs, rfl⟩
            | false =>
              simp only [hc, Bool.not_false, cond_true] at key
              exact CallOK.shrinkP (H := []) (H' := []) (layCl2_ok.call key) (Nat.le_refl _) rfl (fun x hx => by cases hx)
end Go.Mu
set_option linter.unusedVariables false
set_option linter.unusedSimpArgs false
set_option maxRecDepth 100000
namespace Go.Mu
open Go Go.Proofs
/- where a sign stands -/
def isSig (w : WdD) : Bool := w.kind == 6
def idxW (l : List WdD) : Int := bif l.any isSig then ((l.findIdx isSig : Nat) : Int) else -1
def idxWR (x : AVal) : Int := idxW (decL decWq x)
abbrev idxF : FuncId := 37
abbrev sigF : FuncId := 38
structure IwA where
  x : AVal
  H : Heap
def iwAny (x : AVal) : Bool := (decL decWq x).any isSig
def iwIdx (x : AVal) : Nat := (decL decWq x).findIdx isSig
noncomputable def iwSp : LSp := mkL (fun vs _ H => IwA.mk (vs.getD 0 .undef) H) (fun a => lenWqR a.x ≤ 1099511627776) (fun a => [encWqsR a.x, .func sigF [], .int .i64 (lenWqR a.x : Nat), .int .i64 0]) (fun _ => []) (fun a => a.H)
  (fun a k => cond (iwAny a.x) (k .ret [.int .i64 (iwIdx a.x : Nat)] [] a.H) (k (.exit 0) [.undef] [] a.H))
noncomputable def iwFH : FH := .of [(2, loopSpec 19 [0,1,7,8] [] [4] [] iwSp)]
noncomputable abbrev iwTurn := lturn Tryd.prog Lay.nil iwFH idxF 2 [0,1,7,8] [] [4] []
theorem iw_step (f : Bool) (l : List WdD) (n i : Int) (H : Heap) (D : List (FuncId × List AVal)) (k : Kont) : iwTurn (stL 19 [0,1,7,8] [encWqs f l, .func sigF [], .int .i64 n, .int .i64 i] [] [] H D) k = (
  bif decide (i < n) then
  bif decide (0 ≤ i) && decide (i < (l.length : Int)) then
  bif isSig (l.getD i.toNat wd0) then k .ret (stL 19 [4] [.int .i64 i] [] [] H D)
  else k .normal (stL 19 [0,1,7,8] [encWqs f l, .func sigF [], .int .i64 n, .int .i64 (IntKind.i64.wrap (i + 1))] [] [] H D)
  else none
  else k (.exit 0) (stL 19 [4] [.undef] [] [] H D)) := by kernel_rfl
theorem iwSp_ok : SpOK iwTurn 19 [0,1,7,8] [] [4] [] iwSp := mkL_ok fun a h => by
  obtain ⟨x, H⟩ := a
  replace h : (decL decWq x).length ≤ 1099511627776 := h
  have hrun : ∀ (f : Bool) (l : List WdD), l.length ≤ 1099511627776 → ∀ D k, rounds iwTurn (l.length + 1) (stL 19 [0,1,7,8] [encWqs f l, .func sigF [], .int .i64 l.length, .int .i64 0] [] [] H D) k = cond (l.any isSig) (k .ret (stL 19 [4] [.int .i64 (l.findIdx isSig : Nat)] [] [] H D)) (k (.exit 0) (stL 19 [4] [.undef] [] [] H D)) := by
    intro f l hl D k
    have := search_find (turn := iwTurn) (S := fun i => stL 19 [0,1,7,8] [encWqs f l, .func sigF [], .int .i64 l.length, .int .i64 (i : Nat)] [] [] H D) (hit := fun i => isSig (l.getD i wd0)) (n := l.length) (e0 := .exit 0) (e1 := .ret)
      (R0 := stL 19 [4] [.undef] [] [] H D) (R1 := fun i => stL 19 [4] [.int .i64 (i : Nat)] [] [] H D) (fun i k hi => by
        rw [iw_step, dT (show (i : Int) < l.length by omega), dT (show (0 : Int) ≤ i by omega), wrap_add1 (by omega)]; rfl) (fun k => by rw [iw_step, dF (by omega)]; rfl) (by simp) (by simp) k
    rw [find_getD isSig] at this
    refine Eq.trans this ?_
    cases l.any isSig <;> rfl
  have hr := hrun (fullOf x) (decL decWq x) h
  show ∃ e vs bs H', (∀ k : AExit → List AVal → List (List AVal) → Heap → Ans, cond (iwAny x) _ _ = k e vs bs H') ∧ _
  cases ha : (decL decWq x).any isSig with
  | true =>
    have : iwAny x = true := ha
    rw [this]
    exact ⟨_, _, _, _, fun k => rfl, _, fun D k => (hr D k).trans (by rw [ha]; rfl)⟩
  | false =>
    have : iwAny x = false := ha
    rw [this]
    exact ⟨_, _, _, _, fun k => rfl, _, fun D k => (hr D k).trans (by rw [ha]; rfl)⟩
noncomputable def layIw : Lay := Lay.nil.addL idxF iwFH
theorem layIw_ok : layIw.OK Tryd.prog := Lay.nil_ok.loop1 (id := 2) (by kernel_rfl) (by kernel_rfl) (by kernel_rfl) iwSp_ok
theorem iw_fun (f : Bool) (l : List WdD) (k : Out → Ans) : iFun Tryd.prog (layIw.hd Tryd.prog) layIw.fhs 0 37 [encWqs f l, .func sigF []] [] k = (
 let m0 : Nat := lenWqR (AVal.list f l.length fun (i : Nat) => encWq (l.getD i wd0));
  bif
  tst
  (m0 ≤ 1099511627776 ∧
  SubTL
  [AVal.list f l.length fun (i : Nat) => encWq (l.getD i wd0), AVal.func 38 [],
  AVal.int IntKind.i64 (↑l.length : Int), AVal.int IntKind.i64 0]
  [encWqsR (AVal.list f l.length fun (i : Nat) => encWq (l.getD i wd0)), AVal.func 38 [],
  AVal.int IntKind.i64 (↑m0 : Int), AVal.int IntKind.i64 0] ∧
  ([] : List (List AVal)) = [] ∧ ([] : Heap) = []) then
  bif iwAny (AVal.list f l.length fun (i : Nat) => encWq (l.getD i wd0)) then
  k
  (Out.ret
  (AVal.int IntKind.i64 (↑(iwIdx (AVal.list f l.length fun (i : Nat) => encWq (l.getD i wd0))) : Int))
  [])
  else k (Out.ret (AVal.int IntKind.i64 (-1)) [])
  else none) := by kernel_rfl
theorem encWqsR_enc (f : Bool) (l : List WdD) : encWqsR (AVal.list f l.length fun (i : Nat) => encWq (l.getD i wd0)) = AVal.list f l.length fun (i : Nat) => encWq (l.getD i wd0) := by
  unfold encWqsR; rw [decWqs_enc]; rfl
theorem iw_ok (f : Bool) (l : List WdD) (h : l.length ≤ 1099511627776) : CallOK Tryd.prog idxF [encWqs f l, .func sigF []] [] (.ret (.int .i64 (idxW l)) []) := by
  have d := decWqs_enc f l
  have e1 : lenWqR (AVal.list f l.length fun (i : Nat) => encWq (l.getD i wd0)) = l.length := by unfold lenWqR; rw [d]
  have e2 := encWqsR_enc f l
  have e3 : iwAny (AVal.list f l.length fun (i : Nat) => encWq (l.getD i wd0)) = l.any isSig := by unfold iwAny; rw [d]
  have e4 : iwIdx (AVal.list f l.length fun (i : Nat) => encWq (l.getD i wd0)) = l.findIdx isSig := by unfold iwIdx; rw [d]
  refine layIw_ok.callF (G := []) rfl (fun k => (iw_fun f l k).trans ?_)
  simp only [e1, e2, e3, e4]
  refine (congrArg (fun c => cond c _ none) (tst_true ⟨h, .refl _, trivial, trivial⟩)).trans ?_
  unfold idxW
  cases l.any isSig <;> rfl
noncomputable def iwTold : FSp := mkF (fun xs H => (xs.getD 0 .undef)) (fun x => lenWqR x ≤ 1099511627776) (fun x => [encWqsR x, .func sigF []]) (fun _ => []) (fun x k => k (.ret (.int .i64 (idxWR x)) []))
theorem iwTold_ok : ∀ xs H k out, iwTold xs H k = some out → ∃ o, CallOK Tryd.prog idxF xs H o ∧ k o = some out := mkF_ok fun x h => ⟨_, fun k => rfl, iw_ok _ _ h⟩
/- called, told -/
def hdW (l : List WdD) : WdD := l.headD wd0
structure CaA where
  x : AVal
  ah : Bool
def caOk (x : AVal) : Prop := decL decWq x ≠ [] ∧ (decL decWq x).length ≤ 67108864 ∧ ∀ w ∈ decL decWq x, okWd w
def caE (x : AVal) (ah : Bool) : Option (Nat × Int) := calE (hdW (decL decWq x)) (decL decWq x).tail ah
def caBad (x : AVal) (ah : Bool) : Bool := (caE x ah).isSome
def caAt (x : AVal) (ah : Bool) : Int := (((caE x ah).getD (0, 0)).1 : Int)
def caErr (x : AVal) (ah : Bool) : Int := ((caE x ah).getD (0, 0)).2
def caC (x : AVal) : CallD := calC (hdW (decL decWq x)) (decL decWq x).tail
noncomputable def caTold : FSp := mkF (fun xs H => CaA.mk (xs.getD 0 .undef) (aB xs 1)) (fun a => caOk a.x) (fun a => [encWqsR a.x, .bool a.ah]) (fun _ => [])
  (fun a k => cond (caBad a.x a.ah) (k (.panic (fltP (caAt a.x a.ah) (caErr a.x a.ah)) [])) (k (.ret (.agg (encCall (caC a.x))) [])))
theorem caTold_ok : ∀ xs H k out, caTold xs H k = some out → ∃ o, CallOK Tryd.prog 39 xs H o ∧ k o = some out := mkF_ok fun a h => by
  obtain ⟨x, ah⟩ := a
  obtain ⟨h1, h2, h3⟩ := h
  simp only at h1 h2 h3
  obtain ⟨w, r, hx⟩ : ∃ w r, decL decWq x = w :: r := by
    cases hd : decL decWq x with
    | nil => exact absurd hd h1
    | cons w r => exact ⟨w, r, rfl⟩
  rw [hx] at h2 h3
  have key := cal_ok (fullOf x) w r ah (by rw [List.length_cons] at h2; omega) (h3 w (by simp)) (fun y hy => h3 y (by simp [hy]))
  have he : caE x ah = calE w r ah := by unfold caE; rw [hx]; rfl
  have hc : caC x = calC w r := by unfold caC; rw [hx]; rfl
  have hxx : [encWqsR x, AVal.bool ah] = [encWqs (fullOf x) (w :: r), .bool ah] := by unfold encWqsR; rw [hx]
  show ∃ o, (∀ k : Out → Ans, cond (caBad x ah) _ _ = k o) ∧ CallOK _ _ [encWqsR x, AVal.bool ah] [] o
  rw [hxx]
  cases hb : calE w r ah with
  | some e =>
    rw [hb] at key
    have b1 : caBad x ah = true := by unfold caBad; rw [he, hb]; rfl
    have b2 : caAt x ah = e.1 := by unfold caAt; rw [he, hb]; rfl
    have b3 : caErr x ah = e.2 := by unfold caErr; rw [he, hb]; rfl
    rw [b1, b2, b3]
    exact ⟨_, fun k => rfl, key⟩
  | none =>
    rw [hb] at key
    have b1 : caBad x ah = false := by unfold caBad; rw [he, hb]; rfl
    rw [b1, hc]
    exact ⟨_, fun k => rfl, key⟩
/- the loop of Parse -/
noncomputable def layPa : Lay := (Lay.nil.addF idxF iwTold).addF 39 caTold
theorem layPa_ok : layPa.OK Tryd.prog := (Lay.nil_ok.addF iwTold_ok).addF caTold_ok
def paFH0 : FH := { heap := [4,5,6], hoist := true }
abbrev paV (at_ : Int) : List AVal := [.int .i64 at_, .ptr (.hp 0) 0, .ptr (.hp 1) 0, .ptr (.hp 2) 0]
abbrev paH (x : AVal) : Heap := [.var [x], .var [.int .i64 0], .var [.int .i64 0]]
noncomputable abbrev paTurn := lturn Tryd.prog layPa paFH0 12 3 [0,1,4,5,6] [] [1,4,5,6] []
abbrev paX (l : List WdD) (f : Bool) (m : Int) : AVal := AVal.list f (m - 0).toNat fun (i : Nat) => encWq (l.getD (Int.toNat 0 + i) wd0)
noncomputable def paBody (f : Bool) (l : List WdD) (at_ : Int) (D : List (FuncId × List AVal)) (k : Kont) (ah : Bool) (H : Heap) (G : Ans → Ans) (H2 : List AVal → Heap) (f' : Bool) (m : Int) : Ans :=
  bif tst (caOk (paX l f' m) ∧ SubL [paX l f' m, .bool ah] [encWqsR (paX l f' m), .bool ah] ∧ ([] : Heap) = []) then
    bif caBad (paX l f' m) ah then k (.panic (fltP (caAt (paX l f' m) ah) (caErr (paX l f' m) ah))) (stL 82 [1,4,5,6] (paV at_) [] [] H D)
    else bif decide (0 < (l.length : Int)) then G (
      bif m == (l.length : Int) then k (.exit 0) (stL 82 [1,4,5,6] (paV at_) [] [] (H2 (encCall (caC (paX l f' m)))) D)
      else bif decide (0 ≤ m) && decide (m < (l.length : Int)) then
        bif decide (0 ≤ m) && decide (m < (l.length : Int)) then
          bif !(l.getD m.toNat wd0).text == [124] then k (.panic (fltP (l.getD m.toNat wd0).at_ 33)) (stL 82 [1,4,5,6] (paV at_) [] [] (H2 (encCall (caC (paX l f' m)))) D)
          else bif !decide (IntKind.i64.wrap (m + 1) < (l.length : Int)) then k (.panic (fltP at_ 33)) (stL 82 [1,4,5,6] (paV at_) [] [] (H2 (encCall (caC (paX l f' m)))) D)
          else bif decide (0 ≤ IntKind.i64.wrap (m + 1)) && decide (IntKind.i64.wrap (m + 1) ≤ (l.length : Int)) && decide ((l.length : Int) ≤ (l.length : Int)) then
            k .normal (stL 82 [0,1,4,5,6] ((AVal.list (f && (l.length : Int) == (l.length : Int)) ((l.length : Int) - IntKind.i64.wrap (m + 1)).toNat fun (i : Nat) => encWq (l.getD ((IntKind.i64.wrap (m + 1)).toNat + i) wd0)) :: paV at_) [] [] (H2 (encCall (caC (paX l f' m)))) D)
          else none
        else none
      else none)
    else none
  else none
noncomputable def paAll (f : Bool) (l : List WdD) (at_ : Int) (D : List (FuncId × List AVal)) (k : Kont) (ah : Bool) (H : Heap) (G : Ans → Ans) (H2 : List AVal → Heap) : Ans :=
  bif decide ((l.length : Int) > 0) then
    bif decide (0 < (l.length : Int)) then
      bif decide (0 < (l.length : Int)) then
        bif !(l.getD 0 wd0).kind != 6 then k (.panic (fltP (l.getD 0 wd0).at_ 33)) (stL 82 [1,4,5,6] (paV at_) [] [] H D)
        else bif tst (lenWqR (AVal.list f l.length fun (i : Nat) => encWq (l.getD i wd0)) ≤ 1099511627776 ∧ SubL [AVal.list f l.length fun (i : Nat) => encWq (l.getD i wd0), AVal.func sigF []] [encWqsR (AVal.list f l.length fun (i : Nat) => encWq (l.getD i wd0)), AVal.func sigF []] ∧ ([] : Heap) = []) then
          bif decide (idxWR (AVal.list f l.length fun (i : Nat) => encWq (l.getD i wd0)) < 0) then
            bif decide ((l.length : Int) ≤ (l.length : Int)) then paBody f l at_ D k ah H G H2 (f && (l.length : Int) == (l.length : Int)) (l.length : Int) else none
          else bif decide (0 ≤ idxWR (AVal.list f l.length fun (i : Nat) => encWq (l.getD i wd0))) && decide (idxWR (AVal.list f l.length fun (i : Nat) => encWq (l.getD i wd0)) ≤ (l.length : Int)) then
            paBody f l at_ D k ah H G H2 (f && idxWR (AVal.list f l.length fun (i : Nat) => encWq (l.getD i wd0)) == (l.length : Int)) (idxWR (AVal.list f l.length fun (i : Nat) => encWq (l.getD i wd0))) else none
        else none
      else none
    else none
  else k (.exit 0) (stL 82 [1,4,5,6] (paV at_) [] [] H D)
theorem pa_s0 (f : Bool) (l : List WdD) (at_ : Int) (D : List (FuncId × List AVal)) (k : Kont) : paTurn (stL 82 [0,1,4,5,6] (encWqs f l :: paV at_) [] [] (paH nilList) D) k =
  paAll f l at_ D k false (paH nilList) (fun x => x) (fun r => paH (.own 3 0 (0 + 1) 0 false) ++ [.arr 2 [r] 0]) := by kernel_rfl
theorem pa_s1 (f : Bool) (l : List WdD) (at_ : Int) (q v : Nat) (rows : List (List AVal)) (D : List (FuncId × List AVal)) (k : Kont) : paTurn (stL 82 [0,1,4,5,6] (encWqs f l :: paV at_) [] [] (paH (.own 3 0 q v false) ++ [.arr 2 rows v]) D) k =
  paAll f l at_ D k (decide ((q : Int) > 0)) (paH (.own 3 0 q v false) ++ [.arr 2 rows v]) (fun x => bif !decide ((q : Int) < 16) then k (.panic (fltP (l.getD 0 wd0).at_ 3)) (stL 82 [1,4,5,6] (paV at_) [] [] (paH (.own 3 0 q v false) ++ [.arr 2 rows v]) D) else bif v == v && q == rows.length && decide ((2 * (q + 1) + 1000) * 40 ≤ 281474976710656) && true then x else none) (fun r => paH (.own 3 0 (q + 1) (v + 1) false) ++ [.arr 2 (rows ++ [r]) (v + 1)]) := by kernel_rfl
/- a round, plain -/
def pPos (l : List WdD) : Nat := l.findIdx isSig
def paC (l : List WdD) : CallD := calC (hdW (l.take (pPos l))) (l.take (pPos l)).tail
def paE (l : List WdD) (ah : Bool) : Option (Nat × Int) := calE (hdW (l.take (pPos l))) (l.take (pPos l)).tail ah
noncomputable def paM (f : Bool) (l : List WdD) (at_ : Int) (D : List (FuncId × List AVal)) (k : Kont) (ah : Bool) (H : Heap) (G : Ans → Ans) (H2 : List AVal → Heap) : Ans :=
  bif (hdW l).kind == 6 then k (.panic (fltP (hdW l).at_ 33)) (stL 82 [1,4,5,6] (paV at_) [] [] H D) else
  match paE l ah with
  | some e => k (.panic (fltP e.1 e.2)) (stL 82 [1,4,5,6] (paV at_) [] [] H D)
  | none => G (bif pPos l == l.length then k (.exit 0) (stL 82 [1,4,5,6] (paV at_) [] [] (H2 (encCall (paC l))) D) else
    bif !(l.getD (pPos l) wd0).text == [124] then k (.panic (fltP (l.getD (pPos l) wd0).at_ 33)) (stL 82 [1,4,5,6] (paV at_) [] [] (H2 (encCall (paC l))) D) else
    bif !decide (pPos l + 1 < l.length) then k (.panic (fltP at_ 33)) (stL 82 [1,4,5,6] (paV at_) [] [] (H2 (encCall (paC l))) D) else
    k .normal (stL 82 [0,1,4,5,6] (encWqs f (l.drop (pPos l + 1)) :: paV at_) [] [] (H2 (encCall (paC l))) D))
theorem paX_dec (l : List WdD) (f : Bool) (p : Nat) (hp : p ≤ l.length) : decL decWq (paX l f (p : Int)) = l.take p := by
  have h : ∀ i, decWq (encWq (l.getD (Int.toNat 0 + i) wd0)) = l.getD i wd0 := fun i => by
    rw [show Int.toNat 0 + i = i from Nat.zero_add i]; rfl
  unfold paX
  simp only [decL, h]
  have e : ((p : Int) - 0).toNat = p := by omega
  rw [e]
  have h2 : ∀ i ∈ List.range p, l.getD i wd0 = (l.take p).getD i wd0 := fun i hi => by
    rw [List.mem_range] at hi
    rw [List.getD_eq_getElem?_getD, List.getD_eq_getElem?_getD, List.getElem?_take, if_pos hi]
  rw [List.map_congr_left h2]
  have := range_getD (l.take p) wd0
  rw [List.length_take, Nat.min_eq_left hp] at this
  exact this
theorem paX_enc (ah : Bool) (l : List WdD) (f : Bool) (p : Nat) (hp : p ≤ l.length) : SubL [paX l f (p : Int), .bool ah] [encWqsR (paX l f (p : Int)), .bool ah] := by
  refine .cons ?_ (.cons (.refl _) .nil)
  unfold encWqsR
  rw [paX_dec l f p hp]
  have e : ((p : Int) - 0).toNat = p := by omega
  show Sub (AVal.list f ((p : Int) - 0).toNat fun (i : Nat) => encWq (l.getD (Int.toNat 0 + i) wd0)) (AVal.list f (l.take p).length fun (i : Nat) => encWq ((l.take p).getD i wd0))
  rw [e, List.length_take, Nat.min_eq_left hp]
  refine Sub.list (fun h => h) (fun i hi => ?_)
  have h : l.getD (Int.toNat 0 + i) wd0 = (l.take p).getD i wd0 := by
    rw [show Int.toNat 0 + i = i from Nat.zero_add i, List.getD_eq_getElem?_getD, List.getD_eq_getElem?_getD, List.getElem?_take, if_pos hi]
  rw [h]
  exact .refl _
theorem pPos_le (l : List WdD) : pPos l ≤ l.length := List.findIdx_le_length
theorem pPos_any (l : List WdD) : l.any isSig = decide (pPos l < l.length) := by
  unfold pPos
  rw [Bool.eq_iff_iff, decide_eq_true_eq, List.any_eq_true, List.findIdx_lt_length]
theorem paBody_eq (f : Bool) (l : List WdD) (at_ : Int) (D : List (FuncId × List AVal)) (k : Kont) (ah : Bool) (H : Heap) (G : Ans → Ans) (H2 : List AVal → Heap) (f' : Bool) (hl : l.length ≤ 67108864) (hw : ∀ w ∈ l, okWd w) (hp0 : 0 < pPos l) (h6 : ((hdW l).kind == 6) = false) :
    paBody f l at_ D k ah H G H2 f' (pPos l : Int) = paM f l at_ D k ah H G H2 := by
  have hp := pPos_le l
  have dX := paX_dec l f' (pPos l) hp
  have hne : l.take (pPos l) ≠ [] := by
    intro h
    have := congrArg List.length h
    rw [List.length_take, List.length_nil] at this
    omega
  have c1 : caOk (paX l f' (pPos l : Int)) := ⟨by rw [dX]; exact hne, by rw [dX, List.length_take]; omega, by rw [dX]; exact fun w h => hw w (List.mem_of_mem_take h)⟩
  have c2 : caE (paX l f' (pPos l : Int)) ah = paE l ah := by unfold caE paE; rw [dX]
  have c3 : caC (paX l f' (pPos l : Int)) = paC l := by unfold caC paC; rw [dX]
  unfold paBody paM
  rw [tst_true ⟨c1, paX_enc ah l f' (pPos l) hp, rfl⟩, cond_true, h6, cond_false, c3]
  cases he : paE l ah with
  | some e =>
    have b1 : caBad (paX l f' (pPos l : Int)) ah = true := by unfold caBad; rw [c2, he]; rfl
    have b2 : caAt (paX l f' (pPos l : Int)) ah = e.1 := by unfold caAt; rw [c2, he]; rfl
    have b3 : caErr (paX l f' (pPos l : Int)) ah = e.2 := by unfold caErr; rw [c2, he]; rfl
    rw [b1, b2, b3]; rfl
  | none =>
    have b1 : caBad (paX l f' (pPos l : Int)) ah = false := by unfold caBad; rw [c2, he]; rfl
    have e0 : IntKind.i64.wrap ((pPos l : Int) + 1) = ((pPos l + 1 : Nat) : Int) := wrap_add1 (by omega)
    have e1 : ((pPos l : Int) == (l.length : Int)) = (pPos l == l.length) := by rw [Bool.eq_iff_iff, beq_iff_eq, beq_iff_eq]; omega
    rw [b1, cond_false, dT (show (0 : Int) < l.length by omega), cond_true, e0, e1, dT (show (0 : Int) ≤ pPos l by omega)]
    congr 1
    cases hq : pPos l == l.length with
    | true => rfl
    | false =>
      have hlt : pPos l < l.length := by
        have : pPos l ≠ l.length := by simpa using hq
        omega
      rw [dT (show (pPos l : Int) < l.length by omega), Int.toNat_natCast, Int.toNat_natCast]
      simp only [cond_false, Bool.and_self, cond_true]
      cases (l.getD (pPos l) wd0).text == [124] with
      | false => rfl
      | true =>
        simp only [Bool.not_true, cond_false]
        by_cases h1 : pPos l + 1 < l.length
        · have e3 : ((l.length : Int) - ((pPos l + 1 : Nat) : Int)).toNat = (l.drop (pPos l + 1)).length := by rw [List.length_drop]; omega
          have e4 : (fun i => encWq (l.getD (pPos l + 1 + i) wd0)) = fun i => encWq ((l.drop (pPos l + 1)).getD i wd0) := funext fun i => by rw [List.getD_drop]
          rw [dT h1, dT (show ((pPos l + 1 : Nat) : Int) < l.length by omega), dT (show (0 : Int) ≤ ((pPos l + 1 : Nat) : Int) by omega), dT (show ((pPos l + 1 : Nat) : Int) ≤ l.length by omega), dT (show (l.length : Int) ≤ l.length by omega), e3, e4, beq_self_eq_true]
          simp only [Bool.and_true, Bool.not_true, cond_false, Bool.and_self, cond_true]
        · rw [dF h1, dF (show ¬ ((pPos l + 1 : Nat) : Int) < l.length by omega)]
          rfl
theorem paAll_eq (f : Bool) (l : List WdD) (at_ : Int) (D : List (FuncId × List AVal)) (k : Kont) (ah : Bool) (H : Heap) (G : Ans → Ans) (H2 : List AVal → Heap) (hl : l.length ≤ 67108864) (hw : ∀ w ∈ l, okWd w) (hne : l ≠ []) :
    paAll f l at_ D k ah H G H2 = paM f l at_ D k ah H G H2 := by
  obtain ⟨w, r, rfl⟩ : ∃ w r, l = w :: r := by
    cases l with
    | nil => exact absurd rfl hne
    | cons w r => exact ⟨w, r, rfl⟩
  have hd := decWqs_enc f (w :: r)
  have i1 : idxWR (AVal.list f (w :: r).length fun (i : Nat) => encWq ((w :: r).getD i wd0)) = idxW (w :: r) := by unfold idxWR; rw [hd]
  have i2 : lenWqR (AVal.list f (w :: r).length fun (i : Nat) => encWq ((w :: r).getD i wd0)) = (w :: r).length := by unfold lenWqR; rw [hd]
  have i3 := encWqsR_enc f (w :: r)
  have e0 : ((w :: r).getD 0 wd0) = w := rfl
  have hpos : (0 : Int) < ((w :: r).length : Int) := by rw [List.length_cons]; omega
  unfold paAll
  rw [dT hpos, cond_true, cond_true, cond_true, e0, i1, i2, i3, tst_true ⟨by omega, .refl _, rfl⟩, cond_true]
  cases h6 : w.kind == 6 with
  | true =>
    have : (w.kind != 6) = false := by simp [bne, h6]
    rw [this]
    unfold paM
    rw [show hdW (w :: r) = w from rfl, h6]
    rfl
  | false =>
    have : (w.kind != 6) = true := by simp [bne, h6]
    rw [this, Bool.not_true, cond_false]
    have hs : isSig w = false := h6
    have hp0 : 0 < pPos (w :: r) := by
      unfold pPos
      rw [List.findIdx_cons, hs]
      simp
    have hp := pPos_le (w :: r)
    have key := fun f' => paBody_eq f (w :: r) at_ D k ah H G H2 f' hl hw hp0 h6
    unfold idxW
    rw [pPos_any]
    by_cases hlt : pPos (w :: r) < (w :: r).length
    · rw [dT hlt, cond_true]
      show (bif decide (((pPos (w :: r) : Nat) : Int) < 0) then _ else _) = _
      rw [dF (by omega), cond_false]
      rw [show ((w :: r).findIdx isSig) = pPos (w :: r) from rfl, dT (show (0 : Int) ≤ (pPos (w :: r) : Nat) by omega), dT (show ((pPos (w :: r) : Nat) : Int) ≤ ((w :: r).length : Int) by omega), Bool.and_self, cond_true]
      exact key _
    · have heq : pPos (w :: r) = (w :: r).length := by omega
      rw [dF hlt, cond_false, dT (show (-1 : Int) < 0 by omega), cond_true, dT (Int.le_refl _), cond_true]
      have := key (f && ((w :: r).length : Int) == ((w :: r).length : Int))
      rw [heq] at this
      exact this
abbrev paHc (cs : List CallD) : Heap := paH (gV 3 cs.length) ++ gH 2 encCall cs
abbrev paS (l : List WdD) (f : Bool) (at_ : Int) (cs : List CallD) (D : List (FuncId × List AVal)) : St := stL 82 [0,1,4,5,6] (encWqs f l :: paV at_) [] [] (paHc cs) D
abbrev paZ (at_ : Int) (cs : List CallD) (D : List (FuncId × List AVal)) : St := stL 82 [1,4,5,6] (paV at_) [] [] (paHc cs) D
theorem pa_round (f : Bool) (l : List WdD) (at_ : Int) (cs : List CallD) (D : List (FuncId × List AVal)) (k : Kont) (hl : l.length ≤ 67108864) (hw : ∀ w ∈ l, okWd w) (hne : l ≠ []) (hcs : cs.length ≤ 1048576) : paTurn (paS l f at_ cs D) k =
  bif (hdW l).kind == 6 then k (.panic (fltP (hdW l).at_ 33)) (paZ at_ cs D) else
  match paE l (decide (0 < cs.length)) with
  | some e => k (.panic (fltP e.1 e.2)) (paZ at_ cs D)
  | none => bif !decide (cs.length < 16) then k (.panic (fltP (hdW l).at_ 3)) (paZ at_ cs D) else
    bif pPos l == l.length then k (.exit 0) (paZ at_ (cs ++ [paC l]) D) else
    bif !(l.getD (pPos l) wd0).text == [124] then k (.panic (fltP (l.getD (pPos l) wd0).at_ 33)) (paZ at_ (cs ++ [paC l]) D) else
    bif !decide (pPos l + 1 < l.length) then k (.panic (fltP at_ 33)) (paZ at_ (cs ++ [paC l]) D) else
    k .normal (paS (l.drop (pPos l + 1)) f at_ (cs ++ [paC l]) D) := by
  obtain ⟨s1, s2⟩ := g_snoc 3 2 encCall cs (paC l)
  have hH : paHc (cs ++ [paC l]) = paH (.own 3 0 (cs.length + 1) cs.length false) ++ [.arr 2 ((cs ++ [paC l]).map encCall) cs.length] := by
    show paH (gV 3 (cs ++ [paC l]).length) ++ gH 2 encCall (cs ++ [paC l]) = _
    rw [s1, s2]
  unfold paS paZ
  rw [hH]
  have hhd : l.getD 0 wd0 = hdW l := by
    cases l with
    | nil => exact absurd rfl hne
    | cons w r => rfl
  cases cs with
  | nil =>
    refine (pa_s0 f l at_ D k).trans ((paAll_eq f l at_ D k _ _ _ _ hl hw hne).trans ?_)
    rfl
  | cons c t =>
    refine (pa_s1 f l at_ (t.length + 1) t.length ((c :: t).map encCall) D k).trans ((paAll_eq f l at_ D k _ _ _ _ hl hw hne).trans ?_)
    unfold paM
    have e1 : decide (((t.length + 1 : Nat) : Int) > 0) = decide (0 < (c :: t).length) := by rw [dT (by omega), dT (by simp)]
    have e2 : decide (((t.length + 1 : Nat) : Int) < 16) = decide ((c :: t).length < 16) := decide_eq_decide.2 (by rw [List.length_cons]; omega)
    have e3 : (t.length == t.length && t.length + 1 == ((c :: t).map encCall).length && decide ((2 * (t.length + 1 + 1) + 1000) * 40 ≤ 281474976710656) && true) = true := by
      rw [List.length_cons] at hcs
      rw [dT (by omega)]; simp
    rw [e1]
    simp only [e2, e3, hhd, cond_true]
    have e4 : (c :: t).map encCall ++ [encCall (paC l)] = (c :: t ++ [paC l]).map encCall := by simp
    rw [e4]
    rfl
def parM : Nat → List WdD → List CallD → Int → Option (Int × Int) × List CallD
  | 0, _, cs, _ => (none, cs)
  | m + 1, l, cs, at_ =>
    bif (hdW l).kind == 6 then (some ((hdW l).at_, 33), cs) else
    match paE l (decide (0 < cs.length)) with
    | some e => (some (e.1, e.2), cs)
    | none => bif !decide (cs.length < 16) then (some ((hdW l).at_, 3), cs) else
      bif pPos l == l.length then (none, cs ++ [paC l]) else
      bif !(l.getD (pPos l) wd0).text == [124] then (some ((l.getD (pPos l) wd0).at_, 33), cs ++ [paC l]) else
      bif !decide (pPos l + 1 < l.length) then (some (at_, 33), cs ++ [paC l]) else
      parM m (l.drop (pPos l + 1)) (cs ++ [paC l]) at_
def parX (r : Option (Int × Int) × List CallD) : AExit := match r.1 with
  | some e => .panic (fltP e.1 e.2)
  | none => .exit 0
theorem pa_runs (f : Bool) (at_ : Int) : ∀ (m : Nat) (l : List WdD) (cs : List CallD), l.length ≤ m → l.length ≤ 67108864 → (∀ w ∈ l, okWd w) → l ≠ [] → cs.length ≤ 16 →
    LoopRuns paTurn 82 [0,1,4,5,6] [] [1,4,5,6] [] (encWqs f l :: paV at_) [] (paHc cs) (parX (parM m l cs at_)) (paV at_) [] (paHc (parM m l cs at_).2) := by
  intro m
  induction m with
  | zero =>
    intro l cs h1 _ _ hne _
    exact absurd (List.eq_nil_of_length_eq_zero (by omega)) hne
  | succ m ih =>
    intro l cs h1 hl hw hne hcs
    have key := fun D k => pa_round f l at_ cs D k hl hw hne (by omega)
    rw [parM]
    cases h6 : (hdW l).kind == 6 with
    | true =>
      simp only [h6, cond_true] at key ⊢
      exact .stop (by simp [parX]) key
    | false =>
      simp only [h6, cond_false] at key ⊢
      cases he : paE l (decide (0 < cs.length)) with
      | some e =>
        simp only [he] at key ⊢
        exact .stop (by simp [parX]) key
      | none =>
        simp only [he] at key ⊢
        by_cases h16 : cs.length < 16
        case neg =>
          simp only [dF h16, Bool.not_false, cond_true] at key ⊢
          exact .stop (by simp [parX]) key
        simp only [dT h16, Bool.not_true, cond_false] at key ⊢
        cases hq : pPos l == l.length with
        | true =>
          simp only [hq, cond_true] at key ⊢
          exact .stop (by simp [parX]) key
        | false =>
          simp only [hq, cond_false] at key ⊢
          cases ht : (l.getD (pPos l) wd0).text == [124] with
          | false =>
            simp only [ht, Bool.not_false, cond_true] at key ⊢
            exact .stop (by simp [parX]) key
          | true =>
            simp only [ht, Bool.not_true, cond_false] at key ⊢
            by_cases hlt : pPos l + 1 < l.length
            case neg =>
              simp only [dF hlt, Bool.not_false, cond_true] at key ⊢
              exact .stop (by simp [parX]) key
            simp only [dT hlt, Bool.not_true, cond_false] at key ⊢
            refine .step key (ih _ _ (by rw [List.length_drop]; omega) (by rw [List.length_drop]; omega) (fun w h => hw w (List.mem_of_mem_drop h)) (fun h => ?_) (by rw [List.length_append]; show _ + 1 ≤ _; omega))
            have := congrArg List.length h
            rw [List.length_drop, List.length_nil] at this
            omega
/- Parse -/
structure PaA where
  x : AVal
  at_ : Int
def paR (x : AVal) (at_ : Int) : Option (Int × Int) × List CallD := parM (decL decWq x).length (decL decWq x) [] at_
def paBad (x : AVal) (at_ : Int) : Bool := (paR x at_).1.isSome
def paEA (x : AVal) (at_ : Int) : Int := ((paR x at_).1.getD (0, 0)).1
def paEE (x : AVal) (at_ : Int) : Int := ((paR x at_).1.getD (0, 0)).2
def paNum (x : AVal) (at_ : Int) : Nat := (paR x at_).2.length
def paRows (x : AVal) (at_ : Int) : List (List AVal) := (paR x at_).2.map encCall
noncomputable def paSp : LSp := mkL (fun vs _ _ => PaA.mk (vs.getD 0 .undef) (aI vs 1)) (fun a => caOk a.x) (fun a => encWqsR a.x :: paV a.at_) (fun _ => []) (fun _ => paH nilList)
  (fun a k => cond (paNum a.x a.at_ == 0) (cond (paBad a.x a.at_) (k (.panic (fltP (paEA a.x a.at_) (paEE a.x a.at_))) (paV a.at_) [] (paH nilList)) (k (.exit 0) (paV a.at_) [] (paH nilList)))
    (cond (paBad a.x a.at_) (k (.panic (fltP (paEA a.x a.at_) (paEE a.x a.at_))) (paV a.at_) [] (paH (.own 3 0 (paNum a.x a.at_) (paNum a.x a.at_ - 1) false) ++ [.arr 2 (paRows a.x a.at_) (paNum a.x a.at_ - 1)]))
      (k (.exit 0) (paV a.at_) [] (paH (.own 3 0 (paNum a.x a.at_) (paNum a.x a.at_ - 1) false) ++ [.arr 2 (paRows a.x a.at_) (paNum a.x a.at_ - 1)]))))
theorem paSp_ok : SpOK paTurn 82 [0,1,4,5,6] [] [1,4,5,6] [] paSp := mkL_ok fun a h => by
  obtain ⟨x, at_⟩ := a
  obtain ⟨h1, h2, h3⟩ := h
  have r := pa_runs (fullOf x) at_ _ (decL decWq x) [] (Nat.le_refl _) h2 h3 h1 (by show 0 ≤ 16; omega)
  show ∃ e vs bs H', (∀ k : AExit → List AVal → List (List AVal) → Heap → Ans, cond (paNum x at_ == 0) _ _ = k e vs bs H') ∧ LoopRuns paTurn _ _ _ _ _ (encWqs (fullOf x) (decL decWq x) :: paV at_) [] (paHc []) e vs bs H'
  have hr : parM (decL decWq x).length (decL decWq x) [] at_ = paR x at_ := rfl
  rw [hr] at r
  have b : ∀ e, (paR x at_).1 = some e → paBad x at_ = true ∧ paEA x at_ = e.1 ∧ paEE x at_ = e.2 := fun e he => ⟨by unfold paBad; rw [he]; rfl, by unfold paEA; rw [he]; rfl, by unfold paEE; rw [he]; rfl⟩
  have b0 : (paR x at_).1 = none → paBad x at_ = false := fun he => by unfold paBad; rw [he]; rfl
  unfold paNum paRows
  cases hc : (paR x at_).2 with
  | nil =>
    rw [hc] at r
    cases he : (paR x at_).1 with
    | some e =>
      obtain ⟨b1, b2, b3⟩ := b e he
      rw [b1, b2, b3]
      unfold parX at r; rw [he] at r
      exact ⟨_, _, _, _, fun k => rfl, r⟩
    | none =>
      rw [b0 he]
      unfold parX at r; rw [he] at r
      exact ⟨_, _, _, _, fun k => rfl, r⟩
  | cons c t =>
    rw [hc] at r
    cases he : (paR x at_).1 with
    | some e =>
      obtain ⟨b1, b2, b3⟩ := b e he
      rw [b1, b2, b3]
      unfold parX at r; rw [he] at r
      exact ⟨_, _, _, _, fun k => rfl, r⟩
    | none =>
      rw [b0 he]
      unfold parX at r; rw [he] at r
      exact ⟨_, _, _, _, fun k => rfl, r⟩
noncomputable def paFH : FH := { FH.of [(3, loopSpec 82 [0,1,4,5,6] [] [1,4,5,6] [] paSp)] with heap := [4,5,6], hoist := true }
theorem pa_turn_eq : lturn Tryd.prog layPa paFH 12 3 [0,1,4,5,6] [] [1,4,5,6] [] = paTurn := by kernel_rfl
noncomputable def layPa2 : Lay := layPa.addL 12 paFH
theorem layPa2_ok : layPa2.OK Tryd.prog := layPa_ok.loop1 (id := 3) (by kernel_rfl) (by kernel_rfl) (by kernel_rfl) (by rw [pa_turn_eq]; exact paSp_ok)
theorem par_fun (f : Bool) (l : List WdD) (at_ : Int) (k : Out → Ans) : iFun Tryd.prog (layPa2.hd Tryd.prog) layPa2.fhs 0 12 [encWqs f l, .int .i64 at_] [] k = (
 let m0 : Nat := paNum (AVal.list f l.length fun (i : Nat) => encWq (l.getD i wd0)) at_;
 let c1 : Bool := paBad (AVal.list f l.length fun (i : Nat) => encWq (l.getD i wd0)) at_;
 let m2 : Nat := m0 - 1;
  bif !decide ((↑l.length : Int) > 0) then
  k
  (Out.ret (AVal.tuple [AVal.list true 0 fun (x : Nat) => [], AVal.int IntKind.i64 at_, AVal.int IntKind.i64 8])
  [Obj.var [AVal.list true 0 fun (x : Nat) => []], Obj.var [AVal.int IntKind.i64 at_],
  Obj.var [AVal.int IntKind.i64 8]])
  else
  bif
  tst
  (caOk (AVal.list f l.length fun (i : Nat) => encWq (l.getD i wd0)) ∧
  SubTL
  [AVal.list f l.length fun (i : Nat) => encWq (l.getD i wd0), AVal.int IntKind.i64 at_,
  AVal.ptr (Oid.hp 0) 0, AVal.ptr (Oid.hp 1) 0, AVal.ptr (Oid.hp 2) 0]
  (encWqsR (AVal.list f l.length fun (i : Nat) => encWq (l.getD i wd0)) :: paV at_) ∧
  ([] : List (List AVal)) = [] ∧
  [Obj.var [AVal.list true 0 fun (x : Nat) => []], Obj.var [AVal.int IntKind.i64 0],
  Obj.var [AVal.int IntKind.i64 0]] =
  paH (AVal.list true 0 fun (x : Nat) => [])) then
  bif m0 == 0 then
  bif c1 then
  k
  (Out.ret
  (AVal.tuple
  [AVal.list true 0 fun (x : Nat) => [],
  AVal.int IntKind.i64
  (paEA (AVal.list f l.length fun (i : Nat) => encWq (l.getD i wd0)) at_),
  AVal.int IntKind.i64
  (paEE (AVal.list f l.length fun (i : Nat) => encWq (l.getD i wd0)) at_)])
  [Obj.var [AVal.list true 0 fun (x : Nat) => []],
  Obj.var
  [AVal.int IntKind.i64
  (paEA (AVal.list f l.length fun (i : Nat) => encWq (l.getD i wd0)) at_)],
  Obj.var
  [AVal.int IntKind.i64
  (paEE (AVal.list f l.length fun (i : Nat) => encWq (l.getD i wd0)) at_)]])
  else
  k
  (Out.ret (AVal.tuple [AVal.list true 0 fun (x : Nat) => [], AVal.int IntKind.i64 at_, AVal.int IntKind.i64 0])
  [Obj.var [AVal.list true 0 fun (x : Nat) => []], Obj.var [AVal.int IntKind.i64 at_],
  Obj.var [AVal.int IntKind.i64 0]])
  else
  bif c1 then
  k
  (Out.ret
  (AVal.tuple
  [AVal.list true 0 fun (x : Nat) => [],
  AVal.int IntKind.i64
  (paEA (AVal.list f l.length fun (i : Nat) => encWq (l.getD i wd0)) at_),
  AVal.int IntKind.i64
  (paEE (AVal.list f l.length fun (i : Nat) => encWq (l.getD i wd0)) at_)])
  [Obj.var [AVal.list true 0 fun (x : Nat) => []],
  Obj.var
  [AVal.int IntKind.i64
  (paEA (AVal.list f l.length fun (i : Nat) => encWq (l.getD i wd0)) at_)],
  Obj.var
  [AVal.int IntKind.i64
  (paEE (AVal.list f l.length fun (i : Nat) => encWq (l.getD i wd0)) at_)],
  Obj.arr 2 (paRows (AVal.list f l.length fun (i : Nat) => encWq (l.getD i wd0)) at_) m2])
  else
  k
  (Out.ret (AVal.tuple [AVal.own 3 0 m0 m2 false, AVal.int IntKind.i64 at_, AVal.int IntKind.i64 0])
  [Obj.var [AVal.own 3 0 m0 m2 false], Obj.var [AVal.int IntKind.i64 at_], Obj.var [AVal.int IntKind.i64 0],
  Obj.arr 2 (paRows (AVal.list f l.length fun (i : Nat) => encWq (l.getD i wd0)) at_) m2])
  else none) := by kernel_rfl
def parR (l : List WdD) (at_ : Int) : List CallD × Int × Int :=
  bif l.isEmpty then ([], at_, 8) else match parM l.length l [] at_ with
  | (some e, _) => ([], e.1, e.2)
  | (none, cs) => (cs, at_, 0)
theorem sub_pipe0 {r : Nat → List AVal} {a b : AVal} : Sub (.tuple [.list true 0 r, a, b]) (.tuple [encPipe false [], a, b]) :=
  .tuple (.cons (Sub.list (fun h => by cases h) (fun i hi => by omega)) (.refl _))
theorem sub_pipe (cs : List CallD) (a b : AVal) : Sub (.tuple [.list false cs.length (fun i => (cs.map encCall).getD i []), a, b]) (.tuple [encPipe false cs, a, b]) := by
  refine .tuple (.cons (Sub.list (fun h => h) (fun i hi => ?_)) (.refl _))
  have : (cs.map encCall).getD i [] = encCall (cs.getD i callD0) := by
    rw [List.getD_eq_getElem?_getD, List.getD_eq_getElem?_getD, List.getElem?_map, List.getElem?_eq_getElem hi]
    rfl
  rw [this]
  exact .refl _
theorem par_ok (f : Bool) (l : List WdD) (at_ : Int) (hl : l.length ≤ 67108864) (hw : ∀ w ∈ l, okWd w) :
    CallOK Tryd.prog 12 [encWqs f l, .int .i64 at_] [] (.ret (.tuple [encPipe false (parR l at_).1, .int .i64 (parR l at_).2.1, .int .i64 (parR l at_).2.2]) []) := by
  have d := decWqs_enc f l
  have e3 := encWqsR_enc f l
  have key := fun k => par_fun f l at_ k
  by_cases hne : l = []
  · subst hne
    have hc : CallOK Tryd.prog 12 [encWqs f [], .int .i64 at_] [] (.ret (.tuple [.list true 0 fun (x : Nat) => [], .int .i64 at_, .int .i64 8]) _) := layPa2_ok.call key
    exact (CallOK.shrink (H := []) (H' := []) hc (Nat.le_refl _) rfl (fun x hx => by cases hx)).sub (.refl _) ⟨sub_pipe0, rfl⟩
  have hr : paR (AVal.list f l.length fun (i : Nat) => encWq (l.getD i wd0)) at_ = parM l.length l [] at_ := by unfold paR; rw [d]
  have p1 : caOk (AVal.list f l.length fun (i : Nat) => encWq (l.getD i wd0)) := ⟨by rw [d]; exact hne, by rw [d]; exact hl, by rw [d]; exact hw⟩
  have hpos : 0 < l.length := List.length_pos_iff.2 hne
  have hem : l.isEmpty = false := by simpa using hne
  unfold paNum paBad paEA paEE paRows at key
  simp only [hr, e3, dT (show (l.length : Int) > 0 by omega), Bool.not_true, cond_false] at key
  replace key := fun k => (key k).trans ((congrArg (fun c => cond c _ none) (tst_true ⟨p1, .refl _, by first | trivial | rfl, by first | trivial | rfl⟩)).trans (cond_true _ _))
  unfold parR
  rw [hem, cond_false]
  cases hm : parM l.length l [] at_ with
  | mk o cs =>
    rw [hm] at key
    cases o with
    | some e =>
      simp only [Option.isSome_some, cond_true, Option.getD_some] at key ⊢
      cases cs with
      | nil =>
        have hc : CallOK Tryd.prog 12 [encWqs f l, .int .i64 at_] [] (.ret (.tuple [.list true 0 fun (x : Nat) => [], .int .i64 e.1, .int .i64 e.2]) _) := layPa2_ok.call key
        exact (CallOK.shrink (H := []) (H' := []) hc (Nat.le_refl _) rfl (fun x hx => by cases hx)).sub (.refl _) ⟨sub_pipe0, rfl⟩
      | cons c t =>
        have hc : CallOK Tryd.prog 12 [encWqs f l, .int .i64 at_] [] (.ret (.tuple [.list true 0 fun (x : Nat) => [], .int .i64 e.1, .int .i64 e.2]) _) := layPa2_ok.call key
        exact (CallOK.shrink (H := []) (H' := []) hc (Nat.le_refl _) rfl (fun x hx => by cases hx)).sub (.refl _) ⟨sub_pipe0, rfl⟩
    | none =>
      simp only [Option.isSome_none, cond_false] at key ⊢
      cases cs with
      | nil =>
        have hc : CallOK Tryd.prog 12 [encWqs f l, .int .i64 at_] [] (.ret (.tuple [.list true 0 fun (x : Nat) => [], .int .i64 at_, .int .i64 0]) _) := layPa2_ok.call key
        exact (CallOK.shrink (H := []) (H' := []) hc (Nat.le_refl _) rfl (fun x hx => by cases hx)).sub (.refl _) ⟨sub_pipe0, rfl⟩
      | cons c t =>
        have hc : CallOK Tryd.prog 12 [encWqs f l, .int .i64 at_] [] (.ret (.tuple [.own 3 0 (c :: t).length t.length false, .int .i64 at_, .int .i64 0])
          [.var [.own 3 0 (c :: t).length t.length false], .var [.int .i64 at_], .var [.int .i64 0], .arr 2 ((c :: t).map encCall) t.length]) := layPa2_ok.call key
        have fz : freezeV [.var [.own 3 0 (c :: t).length t.length false], .var [.int .i64 at_], .var [.int .i64 0], .arr 2 ((c :: t).map encCall) t.length] 3 (.tuple [.own 3 0 (c :: t).length t.length false, .int .i64 at_, .int .i64 0]) = some (.tuple [.list false (c :: t).length (fun i => ((c :: t).map encCall).getD i []), .int .i64 at_, .int .i64 0]) := by
          refine freeze_t3 ?_
          refine freezeW (sz := 2) (rows := (c :: t).map encCall) (rows' := (c :: t).map encCall) rfl (by simp) ?_
          rw [List.drop_zero, List.take_of_length_le (by simp)]
          exact freeze_pures _ 0 _ (fun r hr => by
            obtain ⟨a, _, rfl⟩ := List.mem_map.1 hr
            rfl)
        exact (hc.freeze (d := 3) fz).sub (.refl _) ⟨sub_pipe (c :: t) _ _, rfl⟩
def parOkR (x : AVal) : Prop := (decL decWq x).length ≤ 67108864 ∧ ∀ w ∈ decL decWq x, okWd w
def parRR (x : AVal) (at_ : Int) : List CallD × Int × Int := parR (decL decWq x) at_
def parV (x : AVal) (at_ : Int) : List CallD := (parRR x at_).1
def parA (x : AVal) (at_ : Int) : Int := (parRR x at_).2.1
def parE (x : AVal) (at_ : Int) : Int := (parRR x at_).2.2
noncomputable def parTold : FSp := mkF (fun xs H => PaA.mk (xs.getD 0 .undef) (aI xs 1)) (fun a => parOkR a.x) (fun a => [encWqsR a.x, .int .i64 a.at_]) (fun _ => []) (fun a k => k (.ret (.tuple [encPipe false (parV a.x a.at_), .int .i64 (parA a.x a.at_), .int .i64 (parE a.x a.at_)]) []))
theorem parTold_ok : ∀ xs H k out, parTold xs H k = some out → ∃ o, CallOK Tryd.prog 12 xs H o ∧ k o = some out := mkF_ok fun a h => ⟨_, fun k => rfl, par_ok _ _ _ h.1 h.2⟩
end Go.Mu
set_option linter.unusedVariables false
set_option linter.unusedSimpArgs false
set_option maxRecDepth 100000
namespace Go.Mu
open Go Go.Proofs
def slV (j : Nat) (ws : List (List UInt8)) : AVal := match ws with
  | [] => nilList
  | w :: r => .own j 0 (r.length + 1) r.length false
def slH (ws : List (List UInt8)) : Heap := match ws with
  | [] => []
  | w :: r => [.arr 1 ((w :: r).map encS) r.length]
def slD (H : Heap) : List (List UInt8) := match H with
  | [_, .arr _ rows _] => rows.map decS
  | _ => []
structure PiA where
  c : Nat
  H : Heap
  pf : Bool
  pn : Nat
  pr : Nat → List AVal
  n : Int
  i : Int
  x : AVal
  j : Nat
def encAsR (x : AVal) : AVal := encAs (fullOf x) (decL decArg x)
def lenAsR (x : AVal) : Nat := (decL decArg x).length
def piOk (H : Heap) (x : AVal) (j : Nat) : Prop := j ≤ lenAsR x ∧ (slD H).length ≤ 4294967296 ∧ lenAsR x ≤ 4294967296 ∧ ∀ a ∈ decL decArg x, okW a
def piEH (H : Heap) : Heap := H.getD 0 (.var []) :: slH (slD H)
def piEV (H : Heap) : AVal := slV 1 (slD H)
def piR (H : Heap) (x : AVal) (j : Nat) : List (List UInt8) := slD H ++ ((decL decArg x).drop j).map wordM
abbrev piV (c : Nat) (x : AVal) (pf : Bool) (pn : Nat) (pr : Nat → List AVal) (n i : Int) : List AVal := [.own 0 0 c c false, x, .list pf pn pr, .int .i64 n, .int .i64 i]
def lenO : AVal → Nat
  | .own _ _ n _ _ => n
  | _ => 0
noncomputable def piSpR (R : Heap → AVal → Nat → List (List UInt8)) : LSp := mkL (fun vs _ H => PiA.mk (lenO (vs.getD 0 .undef)) H (plF (vs.getD 2 .undef)) (plN (vs.getD 2 .undef)) (plR (vs.getD 2 .undef)) (aI vs 3) (aI vs 4) (vs.getD 5 .undef) (aI vs 7).toNat)
  (fun a => piOk a.H a.x a.j) (fun a => piV a.c (piEV a.H) a.pf a.pn a.pr a.n a.i ++ [encAsR a.x, .int .i64 (lenAsR a.x : Nat), .int .i64 a.j]) (fun _ => []) (fun a => piEH a.H)
  (fun a k => cond (R a.H a.x a.j).isEmpty (k (.exit 2) (piV a.c nilList a.pf a.pn a.pr a.n a.i) [] [a.H.getD 0 (.var [])])
    (k (.exit 2) (piV a.c (.own 1 0 (R a.H a.x a.j).length ((R a.H a.x a.j).length - 1) false) a.pf a.pn a.pr a.n a.i) [] [a.H.getD 0 (.var []), .arr 1 ((R a.H a.x a.j).map encS) ((R a.H a.x a.j).length - 1)]))
noncomputable abbrev piSp : LSp := piSpR piR
noncomputable def piFH : FH := .of [(9, loopSpec 47 [3,6,12,13,14,27,28,29] [] [3,6,12,13,14] [] piSp)]
noncomputable def layPi : Lay := (Lay.nil.addF 45 sJoinTold).addF 44 wordTold
theorem layPi_ok : layPi.OK Tryd.prog := (Lay.nil_ok.addF sJoinTold_ok).addF wordTold_ok
noncomputable abbrev piTurn := lturn Tryd.prog layPi piFH 17 9 [3,6,12,13,14,27,28,29] [] [3,6,12,13,14] []
theorem pi_s0 (c : Nat) (pf : Bool) (pn : Nat) (pr : Nat → List AVal) (n i : Int) (f : Bool) (l : List ArgD) (m j : Int) (O : Obj) (D : List (FuncId × List AVal)) (k : Kont) : piTurn (stL 47 [3,6,12,13,14,27,28,29] (piV c nilList pf pn pr n i ++ [encAs f l, .int .i64 m, .int .i64 j]) [] [] [O] D) k = (
  bif decide (j < m) then
  bif decide (0 ≤ j) && decide (j < (l.length : Int)) then
  bif tst (okR (encArg (l.getD j.toNat argD0)) ∧ SubL [.agg (encArg (l.getD j.toNat argD0))] [encR (encArg (l.getD j.toNat argD0))] ∧ ([] : Heap) = []) then
  k .normal (stL 47 [3,6,12,13,14,27,28,29] (piV c (.own 1 0 (0 + 1) 0 false) pf pn pr n i ++ [encAs f l, .int .i64 m, .int .i64 (IntKind.i64.wrap (j + 1))]) [] [] [O, .arr 1 [[.str (wordR (encArg (l.getD j.toNat argD0)))]] 0] D)
  else none
  else none
  else k (.exit 2) (stL 47 [3,6,12,13,14] (piV c nilList pf pn pr n i) [] [] [O] D)) := by kernel_rfl
theorem pi_s1 (c : Nat) (pf : Bool) (pn : Nat) (pr : Nat → List AVal) (n i : Int) (f : Bool) (l : List ArgD) (m j : Int) (O : Obj) (q v : Nat) (rows : List (List AVal)) (D : List (FuncId × List AVal)) (k : Kont) : piTurn (stL 47 [3,6,12,13,14,27,28,29] (piV c (.own 1 0 q v false) pf pn pr n i ++ [encAs f l, .int .i64 m, .int .i64 j]) [] [] [O, .arr 1 rows v] D) k = (
  bif decide (j < m) then
  bif decide (0 ≤ j) && decide (j < (l.length : Int)) then
  bif tst (okR (encArg (l.getD j.toNat argD0)) ∧ SubL [.agg (encArg (l.getD j.toNat argD0))] [encR (encArg (l.getD j.toNat argD0))] ∧ ([] : Heap) = []) then
  bif v == v && q == rows.length && decide ((2 * (q + 1) + 1000) * 16 ≤ 281474976710656) && true then k .normal (stL 47 [3,6,12,13,14,27,28,29] (piV c (.own 1 0 (q + 1) (v + 1) false) pf pn pr n i ++ [encAs f l, .int .i64 m, .int .i64 (IntKind.i64.wrap (j + 1))]) [] [] [O, .arr 1 (rows ++ [[.str (wordR (encArg (l.getD j.toNat argD0)))]]) (v + 1)] D)
  else none
  else none
  else none
  else k (.exit 2) (stL 47 [3,6,12,13,14] (piV c (.own 1 0 q v false) pf pn pr n i) [] [] [O, .arr 1 rows v] D)) := by kernel_rfl
theorem sl_snoc (j : Nat) (ws : List (List UInt8)) (w : List UInt8) : slV j (ws ++ [w]) = .own j 0 (ws.length + 1) ws.length false ∧ slH (ws ++ [w]) = [.arr 1 ((ws ++ [w]).map encS) ws.length] := by
  cases ws with
  | nil => exact ⟨rfl, rfl⟩
  | cons a r => simp [slV, slH]
theorem tst_encR (a : ArgD) (h : okW a) : tst (okR (encArg a) ∧ SubL [.agg (encArg a)] [encR (encArg a)] ∧ ([] : Heap) = []) = true := by
  rw [encR_enc, okR_enc]
  exact tst_true ⟨h, .refl _, rfl⟩
theorem pi_runs (c : Nat) (pf : Bool) (pn : Nat) (pr : Nat → List AVal) (n i : Int) (f : Bool) (l : List ArgD) (O : Obj) (hl : l.length ≤ 4294967296) (hw : ∀ x ∈ l, okW x) : ∀ (m j : Nat) (ws : List (List UInt8)), l.length - j ≤ m → j ≤ l.length → ws.length ≤ 4294967296 + j →
    LoopRuns piTurn 47 [3,6,12,13,14,27,28,29] [] [3,6,12,13,14] [] (piV c (slV 1 ws) pf pn pr n i ++ [encAs f l, .int .i64 l.length, .int .i64 j]) [] (O :: slH ws) (.exit 2) (piV c (slV 1 (ws ++ (l.drop j).map wordM)) pf pn pr n i) [] (O :: slH (ws ++ (l.drop j).map wordM)) := by
  intro m
  induction m with
  | zero =>
    intro j ws hm hj hws
    have e : l.drop j = [] := List.drop_eq_nil_of_le (by omega)
    rw [e, List.map_nil, List.append_nil]
    refine .stop (by simp) (fun D k => ?_)
    cases ws with
    | nil => exact (pi_s0 c pf pn pr n i f l l.length j O D k).trans (by rw [dF (by omega)]; rfl)
    | cons a r => exact (pi_s1 c pf pn pr n i f l l.length j O _ _ _ D k).trans (by rw [dF (by omega)]; rfl)
  | succ m ih =>
    intro j ws hm hj hws
    by_cases hlt : j < l.length
    case neg =>
      have e : l.drop j = [] := List.drop_eq_nil_of_le (by omega)
      rw [e, List.map_nil, List.append_nil]
      refine .stop (by simp) (fun D k => ?_)
      cases ws with
      | nil => exact (pi_s0 c pf pn pr n i f l l.length j O D k).trans (by rw [dF (by omega)]; rfl)
      | cons a r => exact (pi_s1 c pf pn pr n i f l l.length j O _ _ _ D k).trans (by rw [dF (by omega)]; rfl)
    obtain ⟨a, ha⟩ : ∃ a, a = l.getD j argD0 := ⟨_, rfl⟩
    have hwa : okW a := hw a (by rw [ha, List.getD_eq_getElem?_getD, List.getElem?_eq_getElem hlt]; exact List.getElem_mem _)
    have ed := drop_cons_of l j argD0 hlt
    rw [← ha] at ed
    have e2 : IntKind.i64.wrap ((j : Int) + 1) = ((j + 1 : Nat) : Int) := wrap_add1 (by omega)
    have ih2 := ih (j + 1) (ws ++ [wordM a]) (by omega) (by omega) (by rw [List.length_append]; show _ + 1 ≤ _; omega)
    rw [List.append_assoc, List.singleton_append, ← List.map_cons, ← ed] at ih2
    obtain ⟨s1, s2⟩ := sl_snoc 1 ws (wordM a)
    refine .step (fun D k => ?_) ih2
    rw [s1, s2]
    cases ws with
    | nil =>
      refine (pi_s0 c pf pn pr n i f l l.length j O D k).trans ?_
      rw [dT (show (j : Int) < l.length by omega), dT (show (0 : Int) ≤ j by omega), Int.toNat_natCast, ← ha, tst_encR a hwa, e2, wordR_enc]
      rfl
    | cons b r =>
      refine (pi_s1 c pf pn pr n i f l l.length j O _ _ _ D k).trans ?_
      rw [List.length_cons] at hws
      rw [dT (show (j : Int) < l.length by omega), dT (show (0 : Int) ≤ j by omega), Int.toNat_natCast, ← ha, tst_encR a hwa, e2, wordR_enc, dT (show (2 * (r.length + 1 + 1) + 1000) * 16 ≤ 281474976710656 by omega)]
      have hq : (r.length + 1 == ((b :: r).map encS).length) = true := by simp
      rw [hq, beq_self_eq_true]
      have hr : (b :: r).map encS ++ [[.str (wordM a)]] = (b :: r ++ [wordM a]).map encS := by simp [encS]
      rw [hr]
      rfl
theorem slV_ne {r : List (List UInt8)} (j : Nat) (h : r.isEmpty = false) : slV j r = .own j 0 r.length (r.length - 1) false ∧ slH r = [.arr 1 (r.map encS) (r.length - 1)] := by
  cases r with
  | nil => cases h
  | cons a r => exact ⟨rfl, rfl⟩
theorem slV_e {r : List (List UInt8)} (j : Nat) (h : r.isEmpty = true) : slV j r = nilList ∧ slH r = [] := by
  cases r with
  | nil => exact ⟨rfl, rfl⟩
  | cons a r => cases h
theorem piSp_ok : SpOK piTurn 47 [3,6,12,13,14,27,28,29] [] [3,6,12,13,14] [] piSp := mkL_ok fun a h => by
  obtain ⟨c, H, pf, pn, pr, n, i, x, j⟩ := a
  have key := pi_runs c pf pn pr n i (fullOf x) (decL decArg x) (H.getD 0 (.var [])) h.2.2.1 h.2.2.2 _ j (slD H) (Nat.le_refl _) h.1 (by have := h.2.1; simp only at this; omega)
  show ∃ e vs bs H', (∀ k : AExit → List AVal → List (List AVal) → Heap → Ans, cond (piR H x j).isEmpty _ _ = k e vs bs H') ∧ _
  cases hb : (piR H x j).isEmpty with
  | true =>
    obtain ⟨e1, e2⟩ := slV_e 1 hb
    unfold piR at e1 e2
    rw [e1, e2] at key
    exact ⟨_, _, _, _, fun k => rfl, key⟩
  | false =>
    obtain ⟨e1, e2⟩ := slV_ne 1 hb
    unfold piR at e1 e2
    rw [e1, e2] at key
    exact ⟨_, _, _, _, fun k => rfl, key⟩
noncomputable def prtFH0 (R : Heap → AVal → Nat → List (List UInt8)) : FH := .of [(9, loopSpec 47 [3,6,12,13,14,27,28,29] [] [3,6,12,13,14] [] (piSpR R))]
theorem po_step (R : Heap → AVal → Nat → List (List UInt8)) (f : Bool) (q : Nat) (nm : Nat → List UInt8) (af : Nat → Bool) (an : Nat → Nat) (ar : Nat → Nat → List AVal) (n i : Int) (c : Nat) (os : List (List UInt8)) (k : Kont) (m0 : Nat) (e_m0 : m0 = (lenO (AVal.own 0 0 c c false)))
  (m1 : Nat) (e_m1 : m1 = (m0 + 1))
  (c2 : Bool) (e_c2 : c2 = (c == m0 && m0 == (List.map encS os).length &&
      decide ((2 * m1 + 1000) * 16 ≤ 281474976710656) &&
    true))
  (m3 : Nat) (e_m3 : m3 = ((R [Obj.arr 1 (List.map encS os) c, Obj.arr 1 [[AVal.str (nm i.toNat)]] 0]
      (AVal.list (af i.toNat) (an i.toNat) (ar i.toNat)) (Int.toNat 0)).length))
  (m4 : Nat) (e_m4 : m4 = (m3 - 1))
  (m5 : Nat) (e_m5 : m5 = ((decL decS
      (AVal.list false m3 fun (i_1 : Nat) =>
        (List.map encS
              (R
                [Obj.arr 1 (List.map encS os) c,
                  Obj.arr 1 [[AVal.str (nm i.toNat)]] 0]
                (AVal.list (af i.toNat) (an i.toNat) (ar i.toNat)) (Int.toNat 0))).getD
          (0 + i_1) [])).length))
  (l6 : List UInt8) (e_l6 : l6 = (Lib.join
    (decL decS
      (AVal.list false m3 fun (i_1 : Nat) =>
        (List.map encS
              (R
                [Obj.arr 1 (List.map encS os) c,
                  Obj.arr 1 [[AVal.str (nm i.toNat)]] 0]
                (AVal.list (af i.toNat) (an i.toNat) (ar i.toNat)) (Int.toNat 0))).getD
          (0 + i_1) []))
    [32]))
  (m7 : Nat) (e_m7 : m7 = ((R [Obj.arr 1 (List.map encS os) c]
      (AVal.list (af i.toNat) (an i.toNat) (ar i.toNat)) (Int.toNat 0)).length))
  (m8 : Nat) (e_m8 : m8 = (m7 - 1))
  (m9 : Nat) (e_m9 : m9 = ((decL decS
      (AVal.list false m7 fun (i_1 : Nat) =>
        (List.map encS
              (R [Obj.arr 1 (List.map encS os) c]
                (AVal.list (af i.toNat) (an i.toNat) (ar i.toNat)) (Int.toNat 0))).getD
          (0 + i_1) [])).length))
  (l10 : List UInt8) (e_l10 : l10 = (Lib.join
    (decL decS
      (AVal.list false m7 fun (i_1 : Nat) =>
        (List.map encS
              (R [Obj.arr 1 (List.map encS os) c]
                (AVal.list (af i.toNat) (an i.toNat) (ar i.toNat)) (Int.toNat 0))).getD
          (0 + i_1) []))
    [32])) : lturnD 1 Tryd.prog layPi (prtFH0 R) 17 3 [3,12,13,14] [] [3] [] (stL 47 [3,12,13,14] [.own 0 0 c c false, .list f q (fun i => [.str (nm i), .list (af i) (an i) (ar i)]), .int .i64 n, .int .i64 i] [] [] [.arr 1 (os.map encS) c] []) k = (
  bif decide (i < n) then
    bif decide (0 ≤ i) && decide (i < (↑q : Int)) then
      bif !nm i.toNat == [] then
        bif
            tst
              (piOk
                  [Obj.arr 1 (List.map encS os) c,
                    Obj.arr 1 [[AVal.str (nm i.toNat)]] 0]
                  (AVal.list (af i.toNat) (an i.toNat) (ar i.toNat)) (Int.toNat 0) ∧
                SubTL
                    [AVal.own 0 0 c c false, AVal.own 1 0 (0 + 1) 0 false,
                      AVal.list f q fun (i : Nat) => [AVal.str (nm i), AVal.list (af i) (an i) (ar i)],
                      AVal.int IntKind.i64 n, AVal.int IntKind.i64 i, AVal.list (af i.toNat) (an i.toNat) (ar i.toNat),
                      AVal.int IntKind.i64 (↑(an i.toNat) : Int), AVal.int IntKind.i64 0]
                    [AVal.own 0 0 m0 m0 false,
                      piEV
                        [Obj.arr 1 (List.map encS os) c,
                          Obj.arr 1 [[AVal.str (nm i.toNat)]] 0],
                      AVal.list f q fun (i : Nat) => [AVal.str (nm i), AVal.list (af i) (an i) (ar i)],
                      AVal.int IntKind.i64 n, AVal.int IntKind.i64 i,
                      encAsR (AVal.list (af i.toNat) (an i.toNat) (ar i.toNat)),
                      AVal.int IntKind.i64 (↑(lenAsR (AVal.list (af i.toNat) (an i.toNat) (ar i.toNat))) : Int),
                      AVal.int IntKind.i64 (↑(Int.toNat 0) : Int)] ∧
                  ([] : List (List AVal)) = [] ∧
                    [Obj.arr 1 (List.map encS os) c,
                        Obj.arr 1 [[AVal.str (nm i.toNat)]] 0] =
                      piEH
                        [Obj.arr 1 (List.map encS os) c,
                          Obj.arr 1 [[AVal.str (nm i.toNat)]] 0]) then
          bif
              (R [Obj.arr 1 (List.map encS os) c, Obj.arr 1 [[AVal.str (nm i.toNat)]] 0]
                  (AVal.list (af i.toNat) (an i.toNat) (ar i.toNat)) (Int.toNat 0)).isEmpty then
            bif
                tst
                  ((0 ≤ 140737488355328 ∧ 0 ≤ 140737488355328) ∧
                    SubL [AVal.list true 0 fun (x : Nat) => [], AVal.str [32]]
                        [AVal.list true 0 fun (i : Nat) => [AVal.str []], AVal.str [32]] ∧
                      ([] : Heap) = []) then
              bif c2 then
                k AExit.normal
                  (stL 47 [3, 12, 13, 14]
                    [AVal.own 0 0 m1 m1 false,
                      AVal.list f q fun (i : Nat) => [AVal.str (nm i), AVal.list (af i) (an i) (ar i)],
                      AVal.int IntKind.i64 n, AVal.int IntKind.i64 (IntKind.i64.wrap (i + 1))]
                    [] [] [Obj.arr 1 ((List.map encS os).append [[AVal.str []]]) m1] [])
              else none
            else none
          else
            bif
                (m4 == m4 &&
                      decide
                        (0 + m3 ≤
                          (List.map encS
                              (R
                                [Obj.arr 1 (List.map encS os) c,
                                  Obj.arr 1 [[AVal.str (nm i.toNat)]] 0]
                                (AVal.list (af i.toNat) (an i.toNat) (ar i.toNat)) (Int.toNat 0))).length) &&
                    (List.map encS
                          (R
                            [Obj.arr 1 (List.map encS os) c,
                              Obj.arr 1 [[AVal.str (nm i.toNat)]] 0]
                            (AVal.list (af i.toNat) (an i.toNat) (ar i.toNat)) (Int.toNat 0))).all
                      fun (r : List AVal) => r.all isPure) &&
                  true then
              bif
                  tst
                    ((m5 ≤ 140737488355328 ∧ l6.length ≤ 140737488355328) ∧
                      SubL
                          [AVal.list false m3 fun (i_1 : Nat) =>
                              (List.map encS
                                    (R
                                      [Obj.arr 1 (List.map encS os) c,
                                        Obj.arr 1 [[AVal.str (nm i.toNat)]] 0]
                                      (AVal.list (af i.toNat) (an i.toNat) (ar i.toNat)) (Int.toNat 0))).getD
                                (0 + i_1) [],
                            AVal.str [32]]
                          [AVal.list false m5 fun (i_1 : Nat) =>
                              [AVal.str
                                  ((decL decS
                                        (AVal.list false
                                          (R
                                              [Obj.arr 1 (List.map encS os) c,
                                                Obj.arr 1 [[AVal.str (nm i.toNat)]] 0]
                                              (AVal.list (af i.toNat) (an i.toNat) (ar i.toNat)) (Int.toNat 0)).length
                                          fun (i_2 : Nat) =>
                                          (List.map encS
                                                (R
                                                  [Obj.arr 1 (List.map encS os) c,
                                                    Obj.arr 1 [[AVal.str (nm i.toNat)]] 0]
                                                  (AVal.list (af i.toNat) (an i.toNat) (ar i.toNat)) (Int.toNat 0))).getD
                                            (0 + i_2) [])).getD
                                    i_1 [])],
                            AVal.str [32]] ∧
                        ([] : Heap) = []) then
                bif c2 then
                  k AExit.normal
                    (stL 47 [3, 12, 13, 14]
                      [AVal.own 0 0 m1 m1 false,
                        AVal.list f q fun (i : Nat) => [AVal.str (nm i), AVal.list (af i) (an i) (ar i)],
                        AVal.int IntKind.i64 n, AVal.int IntKind.i64 (IntKind.i64.wrap (i + 1))]
                      [] []
                      [Obj.arr 1
                          (List.map
                            (fun (r : List AVal) =>
                              List.map
                                (fzV (2 - 1) []
                                  ((R
                                          [Obj.arr 1 (List.map encS os) c,
                                            Obj.arr 1 [[AVal.str (nm i.toNat)]] 0]
                                          (AVal.list (af i.toNat) (an i.toNat) (ar i.toNat)) (Int.toNat 0)).length -
                                      1 +
                                    1)
                                  6)
                                r)
                            ((List.map encS os).append [[AVal.str l6]]))
                          m1]
                      [])
                else none
              else none
            else none
        else none
      else
        bif
            tst
              (piOk [Obj.arr 1 (List.map encS os) c]
                  (AVal.list (af i.toNat) (an i.toNat) (ar i.toNat)) (Int.toNat 0) ∧
                SubTL
                    [AVal.own 0 0 c c false, AVal.list true 0 fun (x : Nat) => [],
                      AVal.list f q fun (i : Nat) => [AVal.str (nm i), AVal.list (af i) (an i) (ar i)],
                      AVal.int IntKind.i64 n, AVal.int IntKind.i64 i, AVal.list (af i.toNat) (an i.toNat) (ar i.toNat),
                      AVal.int IntKind.i64 (↑(an i.toNat) : Int), AVal.int IntKind.i64 0]
                    [AVal.own 0 0 m0 m0 false, piEV [Obj.arr 1 (List.map encS os) c],
                      AVal.list f q fun (i : Nat) => [AVal.str (nm i), AVal.list (af i) (an i) (ar i)],
                      AVal.int IntKind.i64 n, AVal.int IntKind.i64 i,
                      encAsR (AVal.list (af i.toNat) (an i.toNat) (ar i.toNat)),
                      AVal.int IntKind.i64 (↑(lenAsR (AVal.list (af i.toNat) (an i.toNat) (ar i.toNat))) : Int),
                      AVal.int IntKind.i64 (↑(Int.toNat 0) : Int)] ∧
                  ([] : List (List AVal)) = [] ∧
                    [Obj.arr 1 (List.map encS os) c] =
                      piEH [Obj.arr 1 (List.map encS os) c]) then
          bif
              (R [Obj.arr 1 (List.map encS os) c]
                  (AVal.list (af i.toNat) (an i.toNat) (ar i.toNat)) (Int.toNat 0)).isEmpty then
            bif
                tst
                  ((0 ≤ 140737488355328 ∧ 0 ≤ 140737488355328) ∧
                    SubL [AVal.list true 0 fun (x : Nat) => [], AVal.str [32]]
                        [AVal.list true 0 fun (i : Nat) => [AVal.str []], AVal.str [32]] ∧
                      ([] : Heap) = []) then
              bif c2 then
                k AExit.normal
                  (stL 47 [3, 12, 13, 14]
                    [AVal.own 0 0 m1 m1 false,
                      AVal.list f q fun (i : Nat) => [AVal.str (nm i), AVal.list (af i) (an i) (ar i)],
                      AVal.int IntKind.i64 n, AVal.int IntKind.i64 (IntKind.i64.wrap (i + 1))]
                    [] [] [Obj.arr 1 ((List.map encS os).append [[AVal.str []]]) m1] [])
              else none
            else none
          else
            bif
                (m8 == m8 &&
                      decide
                        (0 + m7 ≤
                          (List.map encS
                              (R [Obj.arr 1 (List.map encS os) c]
                                (AVal.list (af i.toNat) (an i.toNat) (ar i.toNat)) (Int.toNat 0))).length) &&
                    (List.map encS
                          (R [Obj.arr 1 (List.map encS os) c]
                            (AVal.list (af i.toNat) (an i.toNat) (ar i.toNat)) (Int.toNat 0))).all
                      fun (r : List AVal) => r.all isPure) &&
                  true then
              bif
                  tst
                    ((m9 ≤ 140737488355328 ∧ l10.length ≤ 140737488355328) ∧
                      SubL
                          [AVal.list false m7 fun (i_1 : Nat) =>
                              (List.map encS
                                    (R [Obj.arr 1 (List.map encS os) c]
                                      (AVal.list (af i.toNat) (an i.toNat) (ar i.toNat)) (Int.toNat 0))).getD
                                (0 + i_1) [],
                            AVal.str [32]]
                          [AVal.list false m9 fun (i_1 : Nat) =>
                              [AVal.str
                                  ((decL decS
                                        (AVal.list false
                                          (R [Obj.arr 1 (List.map encS os) c]
                                              (AVal.list (af i.toNat) (an i.toNat) (ar i.toNat)) (Int.toNat 0)).length
                                          fun (i_2 : Nat) =>
                                          (List.map encS
                                                (R [Obj.arr 1 (List.map encS os) c]
                                                  (AVal.list (af i.toNat) (an i.toNat) (ar i.toNat)) (Int.toNat 0))).getD
                                            (0 + i_2) [])).getD
                                    i_1 [])],
                            AVal.str [32]] ∧
                        ([] : Heap) = []) then
                bif c2 then
                  k AExit.normal
                    (stL 47 [3, 12, 13, 14]
                      [AVal.own 0 0 m1 m1 false,
                        AVal.list f q fun (i : Nat) => [AVal.str (nm i), AVal.list (af i) (an i) (ar i)],
                        AVal.int IntKind.i64 n, AVal.int IntKind.i64 (IntKind.i64.wrap (i + 1))]
                      [] []
                      [Obj.arr 1
                          (List.map
                            (fun (r : List AVal) =>
                              List.map
                                (fzV (2 - 1) []
                                  ((R [Obj.arr 1 (List.map encS os) c]
                                          (AVal.list (af i.toNat) (an i.toNat) (ar i.toNat)) (Int.toNat 0)).length -
                                      1 +
                                    1)
                                  6)
                                r)
                            ((List.map encS os).append [[AVal.str l10]]))
                          m1]
                      [])
                else none
              else none
            else none
        else none
    else none
  else
    k (AExit.exit 0)
      (stL 47 [3] [AVal.own 0 0 c c false] [] [] [Obj.arr 1 (List.map encS os) c] [])) := by
  subst e_m0 e_m1 e_c2 e_m3 e_m4 e_m5 e_l6 e_m7 e_m8 e_m9 e_l10
  kernel_rfl
/- what a borrowed slice of texts reads as -/
theorem brw_dec (r : List (List UInt8)) (f : Bool) : decL decS (AVal.list f r.length fun (i : Nat) => (List.map encS r).getD (0 + i) []) = r := by
  have h : ∀ i, decS ((List.map encS r).getD (0 + i) []) = r.getD i [] := fun i => by
    rw [Nat.zero_add, List.getD_eq_getElem?_getD, List.getD_eq_getElem?_getD, List.getElem?_map]
    cases r[i]? <;> rfl
  simp only [decL, h]
  exact range_getD r []
theorem brw_wf (r : List (List UInt8)) (f : Bool) : wfL wfS (AVal.list f r.length fun (i : Nat) => (List.map encS r).getD (0 + i) []) = true := by
  simp only [wfL, List.all_eq_true, List.mem_range]
  intro i hi
  rw [Nat.zero_add, List.getD_eq_getElem?_getD, List.getElem?_map, List.getElem?_eq_getElem hi]
  rfl
theorem brw_sub (r : List (List UInt8)) (f : Bool) : Sub (AVal.list f r.length fun (i : Nat) => (List.map encS r).getD (0 + i) []) (ssL f r) := by
  have := sub_encL (g := decS) (f := encS) (d := []) (brw_wf r f) wfS_sub
  rw [brw_dec] at this
  exact this
theorem brw_pure (r : List (List UInt8)) : ((List.map encS r).all fun (r : List AVal) => r.all isPure) = true := by
  rw [List.all_map, List.all_eq_true]
  intro s hs
  rfl
def callWs (c : CallD) : List (List UInt8) := (bif c.name == [] then [] else [c.name]) ++ c.args.map wordM
def callW (c : CallD) : List UInt8 := Lib.join (callWs c) [32]
def okCW (c : CallD) : Prop := c.args.length ≤ 4294967296 ∧ (∀ a ∈ c.args, okW a) ∧ (callW c).length ≤ 140737488355328
noncomputable abbrev poTurn := lturnD 1 Tryd.prog layPi (prtFH0 piR) 17 3 [3,12,13,14] [] [3] []
abbrev poSt (f : Bool) (l : List CallD) (i : Nat) (os : List (List UInt8)) : St := stL 47 [3,12,13,14] [.own 0 0 i i false, encPipe f l, .int .i64 l.length, .int .i64 i] [] [] [.arr 1 (os.map encS) i] []
theorem fz_rows (k u : Nat) (r : List (List UInt8)) : List.map (fun (x : List AVal) => List.map (fzV k [] u 6) x) (List.map encS r) = List.map encS r := by
  rw [List.map_map]; rfl
theorem po_round (f : Bool) (l : List CallD) (i : Nat) (os : List (List UInt8)) (hi : i < l.length) (hl : l.length ≤ 4294967296) (hos : os.length = i) (c : CallD) (hc : c = l.getD i callD0) (hok : okCW c) (k : Kont) : poTurn (poSt f l i os) k = k .normal (poSt f l (i + 1) (os ++ [callW c])) := by
  obtain ⟨h1, h2, h3⟩ := hok
  have dA : decL decArg (AVal.list c.af c.args.length fun (j : Nat) => encArg (c.args.getD j argD0)) = c.args := decAs_enc c.af c.args
  have eA : encAsR (AVal.list c.af c.args.length fun (j : Nat) => encArg (c.args.getD j argD0)) = AVal.list c.af c.args.length fun (j : Nat) => encArg (c.args.getD j argD0) := by
    unfold encAsR; rw [dA]; rfl
  have eL : lenAsR (AVal.list c.af c.args.length fun (j : Nat) => encArg (c.args.getD j argD0)) = c.args.length := by
    unfold lenAsR; rw [dA]
  have R1 : piR [Obj.arr 1 (List.map encS os) i, Obj.arr 1 [[AVal.str c.name]] 0] (AVal.list c.af c.args.length fun (j : Nat) => encArg (c.args.getD j argD0)) (Int.toNat 0) = c.name :: c.args.map wordM := by
    unfold piR; rw [dA]; rfl
  have R2 : piR [Obj.arr 1 (List.map encS os) i] (AVal.list c.af c.args.length fun (j : Nat) => encArg (c.args.getD j argD0)) (Int.toNat 0) = c.args.map wordM := by
    unfold piR; rw [dA]; rfl
  have hc2 : (i == i && i == (List.map encS os).length && decide ((2 * (i + 1) + 1000) * 16 ≤ 281474976710656) && true) = true := by
    rw [List.length_map, hos, dT (by omega)]; simp
  refine (po_step piR f l.length (fun i => (l.getD i callD0).name) (fun i => (l.getD i callD0).af) (fun i => (l.getD i callD0).args.length) (fun i j => encArg ((l.getD i callD0).args.getD j argD0)) l.length i i os k i rfl (i + 1) rfl true hc2.symm
    _ rfl _ rfl _ rfl _ rfl _ rfl _ rfl _ rfl _ rfl).trans ?_
  simp only [Int.toNat_natCast, ← hc]
  simp only [R1, R2, eA, eL]
  rw [dT (show (i : Int) < l.length by omega), dT (show (0 : Int) ≤ i by omega), wrap_add1 (by omega)]
  simp only [cond_true, Bool.and_true]
  cases hn : c.name == [] with
  | false =>
    have hw : callWs c = c.name :: c.args.map wordM := by unfold callWs; rw [hn]; rfl
    have hj : (Lib.join (c.name :: c.args.map wordM) [32]).length ≤ 140737488355328 := by rw [← hw]; exact h3
    have p1 : piOk [Obj.arr 1 (List.map encS os) i, Obj.arr 1 [[AVal.str c.name]] 0] (AVal.list c.af c.args.length fun (j : Nat) => encArg (c.args.getD j argD0)) (Int.toNat 0) := by
      refine ⟨Nat.zero_le _, by show 1 ≤ 4294967296; omega, by rw [eL]; exact h1, by rw [dA]; exact h2⟩
    simp only [Bool.not_false, cond_true]
    rw [tst_true ⟨p1, .refl _, trivial, rfl⟩]
    have b1 := brw_dec (c.name :: c.args.map wordM) false
    have b2 := brw_sub (c.name :: c.args.map wordM) false
    have b3 := brw_pure (c.name :: c.args.map wordM)
    have b4 : decide (0 + (c.name :: c.args.map wordM).length ≤ (List.map encS (c.name :: c.args.map wordM)).length) = true := dT (by simp)
    have b5 : (c.name :: c.args.map wordM).isEmpty = false := rfl
    have b6 : (c.name :: c.args.map wordM).length ≤ 140737488355328 := by simp; omega
    simp only [b1, b3, b4, b5, cond_true, cond_false, beq_self_eq_true, Bool.and_self]
    rw [tst_true ⟨⟨b6, hj⟩, .cons b2 (.cons (.refl _) .nil), trivial⟩]
    have e3 : (List.map encS os).append [[AVal.str (Lib.join (c.name :: c.args.map wordM) [32])]] = List.map encS (os ++ [callW c]) := by
      unfold callW; rw [hw]; simp [encS]
    rw [e3, fz_rows]
    rfl
  | true =>
    have hw : callWs c = c.args.map wordM := by unfold callWs; rw [hn]; rfl
    have hj : (Lib.join (c.args.map wordM) [32]).length ≤ 140737488355328 := by rw [← hw]; exact h3
    have p1 : piOk [Obj.arr 1 (List.map encS os) i] (AVal.list c.af c.args.length fun (j : Nat) => encArg (c.args.getD j argD0)) (Int.toNat 0) := by
      refine ⟨Nat.zero_le _, by show 0 ≤ 4294967296; omega, by rw [eL]; exact h1, by rw [dA]; exact h2⟩
    simp only [Bool.not_true, cond_false]
    rw [tst_true ⟨p1, .refl _, trivial, rfl⟩]
    cases hr : (c.args.map wordM).isEmpty with
    | true =>
      have hr' : c.args.map wordM = [] := List.isEmpty_iff.1 hr
      simp only [cond_true]
      rw [tst_true ⟨⟨by omega, by omega⟩, .cons (Sub.list (fun h => h) (fun i hi => by omega)) (.cons (.refl _) .nil), trivial⟩]
      have e3 : (List.map encS os).append [[AVal.str []]] = List.map encS (os ++ [callW c]) := by
        unfold callW; rw [hw, hr']; simp [encS, Lib.join_nil]
      rw [e3]
      rfl
    | false =>
      have b1 := brw_dec (c.args.map wordM) false
      have b2 := brw_sub (c.args.map wordM) false
      have b3 := brw_pure (c.args.map wordM)
      have b4 : decide (0 + (c.args.map wordM).length ≤ (List.map encS (c.args.map wordM)).length) = true := dT (by simp)
      have b6 : (c.args.map wordM).length ≤ 140737488355328 := by simp; omega
      simp only [b1, b3, b4, cond_true, cond_false, beq_self_eq_true, Bool.and_self]
      rw [tst_true ⟨⟨b6, hj⟩, .cons b2 (.cons (.refl _) .nil), trivial⟩]
      have e3 : (List.map encS os).append [[AVal.str (Lib.join (c.args.map wordM) [32])]] = List.map encS (os ++ [callW c]) := by
        unfold callW; rw [hw]; simp [encS]
      rw [e3, fz_rows]
      rfl
theorem po_end (f : Bool) (l : List CallD) (i : Nat) (os : List (List UInt8)) (hi : ¬ i < l.length) (k : Kont) : poTurn (poSt f l i os) k = k (.exit 0) (stL 47 [3] [.own 0 0 i i false] [] [] [.arr 1 (os.map encS) i] []) := by
  refine (po_step piR f l.length (fun i => (l.getD i callD0).name) (fun i => (l.getD i callD0).af) (fun i => (l.getD i callD0).args.length) (fun i j => encArg ((l.getD i callD0).args.getD j argD0)) l.length i i os k i rfl (i + 1) rfl _ rfl
    _ rfl _ rfl _ rfl _ rfl _ rfl _ rfl _ rfl _ rfl).trans ?_
  rw [dF (by omega)]
  rfl
theorem po_runs (f : Bool) (l : List CallD) (hl : l.length ≤ 4294967296) (hok : ∀ c ∈ l, okCW c) : ∀ (m i : Nat), l.length - i ≤ m → i ≤ l.length →
    ∃ q, ∀ k, rounds poTurn q (poSt f l i ((l.take i).map callW)) k = k (.exit 0) (stL 47 [3] [.own 0 0 l.length l.length false] [] [] [.arr 1 ((l.map callW).map encS) l.length] []) := by
  intro m
  induction m with
  | zero =>
    intro i h1 h2
    obtain rfl : i = l.length := by omega
    rw [List.take_length]
    exact ⟨1, fun k => by rw [rounds_succ', po_end f l _ _ (by omega)]⟩
  | succ m ih =>
    intro i h1 h2
    by_cases hi : i < l.length
    · obtain ⟨q, hq⟩ := ih (i + 1) (by omega) (by omega)
      refine ⟨q + 1, fun k => ?_⟩
      have hm : l.getD i callD0 ∈ l := by rw [List.getD_eq_getElem?_getD, List.getElem?_eq_getElem hi]; exact List.getElem_mem _
      rw [rounds_succ', po_round f l i _ hi hl (by simp; omega) _ rfl (hok _ hm)]
      have e : (l.take i).map callW ++ [callW (l.getD i callD0)] = (l.take (i + 1)).map callW := by
        rw [List.take_succ_eq_append_getElem hi, List.map_append]
        simp [List.getD_eq_getElem?_getD, List.getElem?_eq_getElem hi]
      rw [e]
      exact hq k
    · obtain rfl : i = l.length := by omega
      rw [List.take_length]
      exact ⟨1, fun k => by rw [rounds_succ', po_end f l _ _ (by omega)]⟩
def encPsR (x : AVal) : AVal := encPipe (fullOf x) (decL decCall x)
def lenPsR (x : AVal) : Nat := (decL decCall x).length
def poOk (x : AVal) : Prop := lenPsR x ≤ 4294967296 ∧ ∀ c ∈ decL decCall x, okCW c
def poR (x : AVal) : List (List AVal) := ((decL decCall x).map callW).map encS
noncomputable def poSp : LSp := mkL (fun vs _ _ => vs.getD 1 .undef) poOk (fun x => [.own 0 0 0 0 false, encPsR x, .int .i64 (lenPsR x), .int .i64 0]) (fun _ => []) (fun _ => [.arr 1 [] 0]) (fun x k => k (.exit 0) [.own 0 0 (lenPsR x) (lenPsR x) false] [] [.arr 1 (poR x) (lenPsR x)])
theorem mkL_okM {α : Type} {turn : St → Kont → Ans} {n : Nat} {l m lx mx : List Nat} {dec : List AVal → List (List AVal) → Heap → α} {ok : α → Prop} {ev : α → List AVal} {eb : α → List (List AVal)} {eh : α → Heap} {post : α → (AExit → List AVal → List (List AVal) → Heap → Ans) → Ans}
    (h : ∀ a, ok a → ∃ e vs bs H, (∀ k, post a k = k e vs bs H) ∧ ∃ q, ∀ k, rounds turn q (stL n l (ev a) m (eb a) (eh a) []) k = k e (stL n lx vs mx bs H [])) : SpOKM turn n l m lx mx (mkL dec ok ev eb eh post) := by
  intro vs bs H k out ho
  unfold mkL at ho
  rw [Bool.cond_eq_ite] at ho
  split at ho
  case isFalse => simp at ho
  rename_i hc
  obtain ⟨h1, h2, h3, h4⟩ := of_tst hc
  generalize dec vs bs H = a at *
  obtain ⟨e, vs', bs', H', h5, h6⟩ := h a h1
  rw [h5] at ho
  subst h3 h4
  exact ⟨ev a, e, vs', bs', H', vs', h2, h6, .refl _, ho⟩
theorem poSp_ok : SpOKM poTurn 47 [3,12,13,14] [] [3] [] poSp := mkL_okM fun x h =>
  ⟨_, _, _, _, fun k => rfl, po_runs (fullOf x) (decL decCall x) h.1 h.2 _ 0 (Nat.le_refl _) (Nat.zero_le _)⟩
noncomputable def prtFH : FH := .of [(9, loopSpec 47 [3,6,12,13,14,27,28,29] [] [3,6,12,13,14] [] piSp), (3, loopSpecM 47 [3,12,13,14] [] [3] [] poSp)]
abbrev prtF : Nat := 17
theorem prt_loops : LOk Tryd.prog prtFH (codeOf Tryd.prog prtF) := by
  have f9 : prtFH.loops (firstRegion (loopAt 9 (codeOf Tryd.prog prtF))) = some (loopSpec 47 [3,6,12,13,14,27,28,29] [] [3,6,12,13,14] [] piSp) := by kernel_rfl
  have f9' : (prtFH0 piR).loops (firstRegion (loopAt 9 (codeOf Tryd.prog prtF))) = some (loopSpec 47 [3,6,12,13,14,27,28,29] [] [3,6,12,13,14] [] piSp) := by kernel_rfl
  have f3 : prtFH.loops (firstRegion (loopAt 3 (codeOf Tryd.prog prtF))) = some (loopSpecM 47 [3,12,13,14] [] [3] [] poSp) := by kernel_rfl
  have e9 : loopsIn (loopAt 9 (codeOf Tryd.prog prtF)) = [] := by kernel_rfl
  have e3 : loopsIn (loopAt 3 (codeOf Tryd.prog prtF)) = [loopAt 9 (codeOf Tryd.prog prtF)] := by kernel_rfl
  have e : loopsIn (codeOf Tryd.prog prtF) = [loopAt 3 (codeOf Tryd.prog prtF), loopAt 9 (codeOf Tryd.prog prtF)] := by kernel_rfl
  have t9 : LoopTold Tryd.prog (loopAt 9 (codeOf Tryd.prog prtF)) (loopSpec 47 [3,6,12,13,14,27,28,29] [] [3,6,12,13,14] [] piSp) := layPi_ok.told (LOk.of _ (fun d hd => by rw [e9] at hd; cases hd)) piSp_ok
  have t3 : LoopTold Tryd.prog (loopAt 3 (codeOf Tryd.prog prtF)) (loopSpecM 47 [3,12,13,14] [] [3] [] poSp) := layPi_ok.toldD (LOk.of _ (fun d hd sp hsp => by
    rw [e3, List.mem_singleton] at hd
    subst hd
    rw [f9', Option.some.injEq] at hsp
    subst hsp; exact t9)) poSp_ok
  refine LOk.of _ (fun d hd sp hsp => ?_)
  rw [e, List.mem_cons, List.mem_singleton] at hd
  rcases hd with rfl | rfl
  · rw [f3, Option.some.injEq] at hsp
    subst hsp; exact t3
  · rw [f9, Option.some.injEq] at hsp
    subst hsp; exact t9
noncomputable def layPr2 : Lay := layPi.addL prtF prtFH
theorem layPr2_ok : layPr2.OK Tryd.prog := layPi_ok.addL prt_loops
theorem prt_fun (f : Bool) (l : List CallD) (k : Out → Ans) : iFun Tryd.prog (layPr2.hd Tryd.prog) layPr2.fhs 0 17 [encPipe f l] [] k = (
 let n0 : Int := (↑l.length : Int);
 let m1 : Nat := lenPsR (AVal.list f l.length fun (i : Nat) => encCall (l.getD i callD0));
 let m2 : Nat :=
  (decL decS
  (AVal.list false m1 fun (i : Nat) =>
  (poR (AVal.list f l.length fun (i : Nat) => encCall (l.getD i callD0))).getD (0 + i) [])).length;
 let l3 : List UInt8 :=
  Lib.join
  (decL decS
  (AVal.list false m1 fun (i : Nat) =>
  (poR (AVal.list f l.length fun (i : Nat) => encCall (l.getD i callD0))).getD (0 + i) []))
  [32, 124, 32];
  bif decide (16 * n0 ≤ 281474976710656) && decide (n0 ≤ 9223372036854775807) then
  bif
  tst
  (poOk (AVal.list f l.length fun (i : Nat) => encCall (l.getD i callD0)) ∧
  SubTL
  [AVal.own 0 0 0 0 false, AVal.list f l.length fun (i : Nat) => encCall (l.getD i callD0),
  AVal.int IntKind.i64 n0, AVal.int IntKind.i64 0]
  [AVal.own 0 0 0 0 false,
  encPsR (AVal.list f l.length fun (i : Nat) => encCall (l.getD i callD0)),
  AVal.int IntKind.i64 (↑m1 : Int), AVal.int IntKind.i64 0] ∧
  ([] : List (List AVal)) = [] ∧ [Obj.arr 1 [] 0] = [Obj.arr 1 [] 0]) then
  bif
  (m1 == m1 &&
  decide
  (0 + m1 ≤
  (poR (AVal.list f l.length fun (i : Nat) => encCall (l.getD i callD0))).length) &&
  (poR (AVal.list f l.length fun (i : Nat) => encCall (l.getD i callD0))).all
  fun (r : List AVal) => r.all isPure) &&
  true then
  bif
  tst
  ((m2 ≤ 140737488355328 ∧ l3.length ≤ 140737488355328) ∧
  SubL
  [AVal.list false m1 fun (i : Nat) =>
  (poR (AVal.list f l.length fun (i : Nat) => encCall (l.getD i callD0))).getD
  (0 + i) [],
  AVal.str [32, 124, 32]]
  [AVal.list false m2 fun (i : Nat) =>
  [AVal.str
  ((decL decS
  (AVal.list false
  (lenPsR
  (AVal.list f l.length fun (i : Nat) => encCall (l.getD i callD0)))
  fun (i : Nat) =>
  (poR
  (AVal.list f l.length fun (i : Nat) =>
  encCall (l.getD i callD0))).getD
  (0 + i) [])).getD
  i [])],
  AVal.str [32, 124, 32]] ∧
  ([] : Heap) = []) then
  k
  (Out.ret (AVal.str l3)
  [Obj.arr 1 (poR (AVal.list f l.length fun (i : Nat) => encCall (l.getD i callD0))) m1])
  else none
  else none
  else none
  else none) := by kernel_rfl
def printP (l : List CallD) : List UInt8 := Lib.join (l.map callW) [32, 124, 32]
def okPW (l : List CallD) : Prop := l.length ≤ 4294967296 ∧ (∀ c ∈ l, okCW c) ∧ (printP l).length ≤ 140737488355328
theorem prt_ok (f : Bool) (l : List CallD) (h : okPW l) : CallOK Tryd.prog 17 [encPipe f l] [] (.ret (.str (printP l)) []) := by
  obtain ⟨h1, h2, h3⟩ := h
  have d : decL decCall (AVal.list f l.length fun (i : Nat) => encCall (l.getD i callD0)) = l := decL_encL decCall_enc l
  have e1 : lenPsR (AVal.list f l.length fun (i : Nat) => encCall (l.getD i callD0)) = (l.map callW).length := by unfold lenPsR; rw [d, List.length_map]
  have e2 : encPsR (AVal.list f l.length fun (i : Nat) => encCall (l.getD i callD0)) = AVal.list f l.length fun (i : Nat) => encCall (l.getD i callD0) := by unfold encPsR; rw [d]; rfl
  have e3 : poR (AVal.list f l.length fun (i : Nat) => encCall (l.getD i callD0)) = List.map encS (l.map callW) := by unfold poR; rw [d]
  have p1 : poOk (AVal.list f l.length fun (i : Nat) => encCall (l.getD i callD0)) := ⟨by rw [e1, List.length_map]; exact h1, by rw [d]; exact h2⟩
  have b1 := brw_dec (l.map callW) false
  have b2 := brw_sub (l.map callW) false
  have b3 := brw_pure (l.map callW)
  have b4 : decide (0 + (l.map callW).length ≤ (List.map encS (l.map callW)).length) = true := dT (by simp)
  have b6 : (l.map callW).length ≤ 140737488355328 := by simp; omega
  have key : ∀ k, iFun Tryd.prog (layPr2.hd Tryd.prog) layPr2.fhs 0 17 [encPipe f l] [] k = k (.ret (.str (printP l)) [.arr 1 (List.map encS (l.map callW)) (l.map callW).length]) := fun k => by
    refine (prt_fun f l k).trans ?_
    simp only [e1, e2, e3, b1, b3, b4, beq_self_eq_true, Bool.and_self]
    rw [dT (by omega), dT (by omega), Bool.and_self, cond_true]
    have hl : ((l.map callW).length : Int) = (l.length : Int) := by rw [List.length_map]
    rw [hl, tst_true ⟨p1, .refl _, trivial, trivial⟩, cond_true, cond_true, tst_true ⟨⟨b6, h3⟩, .cons b2 (.cons (.refl _) .nil), trivial⟩]
    rfl
  exact layPr2_ok.callF rfl key
def okPR (x : AVal) : Prop := okPW (decL decCall x)
def printR (x : AVal) : List UInt8 := printP (decL decCall x)
noncomputable def prtTold : FSp := mkF (fun xs H => xs.getD 0 .undef) okPR (fun x => [encPsR x]) (fun _ => []) (fun x k => k (.ret (.str (printR x)) []))
theorem prtTold_ok : ∀ xs H k out, prtTold xs H k = some out → ∃ o, CallOK Tryd.prog 17 xs H o ∧ k o = some out := mkF_ok fun x h => ⟨_, fun k => rfl, prt_ok _ _ h⟩
end Go.Mu
set_option linter.unusedVariables false
set_option linter.unusedSimpArgs false
set_option maxRecDepth 100000
namespace Go.Mu
open Go Go.Proofs
noncomputable def sp15 : LSp := fun vs bs H k => match vs, bs with
  | [x, y, .int .i64 i, .int .i64 j, .ptr (.tmp 7) 0, .ptr (.tmp 8) 0, .int .i64 z], [c, d] => cond (tst (c = encArg (decArg c) ∧ d = encArg (decArg d) ∧ z = 0 ∧ (decArg c).path.length = (decArg d).path.length ∧ (decArg c).path.length ≤ 1099511627776))
      (cond (!all2 eqS (decArg c).path (decArg d).path) (k .ret [x, y, .bool false, .int .i64 i, .int .i64 j] [] H) (k (.exit 4) [x, y, .undef, .int .i64 i, .int .i64 j] [] H)) none
  | _, _ => none
noncomputable def sp9 : LSp := fun vs bs H k => match vs with
  | [x, y, .int .i64 i, .int .i64 z] => cond (tst (x = encPipe (fullOf x) (decL decCall x) ∧ y = encPipe (fullOf y) (decL decCall y) ∧ okPipe (decL decCall x) ∧ okPipe (decL decCall y) ∧ 0 ≤ i ∧ i < (decL decCall x).length ∧ i < (decL decCall y).length ∧ z = 0 ∧ ((decL decCall x).getD i.toNat callD0).args.length = ((decL decCall y).getD i.toNat callD0).args.length ∧ bs = []))
      (cond (!all2 argEq ((decL decCall x).getD i.toNat callD0).args ((decL decCall y).getD i.toNat callD0).args) (k .ret [x, y, .bool false, .int .i64 i] [] H) (k (.exit 2) [x, y, .undef, .int .i64 i] [] H)) none
  | _ => none
noncomputable def sp4 : LSp := fun vs bs H k => match vs with
  | [x, y, .int .i64 z] => cond (tst (x = encPipe (fullOf x) (decL decCall x) ∧ y = encPipe (fullOf y) (decL decCall y) ∧ okPipe (decL decCall x) ∧ okPipe (decL decCall y) ∧ z = 0 ∧ (decL decCall x).length = (decL decCall y).length ∧ bs = []))
      (cond (!all2 callEq (decL decCall x) (decL decCall y)) (k .ret [.bool false] [] H) (k (.exit 0) [.undef] [] H)) none
  | _ => none
noncomputable def spFH : FH := .of [(4, loopSpec 126 [0,1,5] [] [4] [] sp4), (9, loopSpec 126 [0,1,5,6] [] [0,1,4,5] [] sp9), (15, loopSpec 126 [0,1,5,6,7,8,9] [7,8] [0,1,4,5,6] [] sp15)]
noncomputable abbrev sp15Turn := lturn Tryd.prog layK spFH 15 15 [0,1,5,6,7,8,9] [7,8] [0,1,4,5,6] []
noncomputable abbrev sp9Turn := lturn Tryd.prog layK spFH 15 9 [0,1,5,6] [] [0,1,4,5] []
noncomputable abbrev sp4Turn := lturn Tryd.prog layK spFH 15 4 [0,1,5] [] [4] []
abbrev sp15St (x y : AVal) (i j : Int) (a b : ArgD) (m : Int) (H : Heap) (D : List (FuncId × List AVal)) : St := stL 126 [0,1,5,6,7,8,9] [x, y, .int .i64 i, .int .i64 j, .ptr (.tmp 7) 0, .ptr (.tmp 8) 0, .int .i64 m] [7,8] [encArg a, encArg b] H D
theorem sp15_step0 (x y : AVal) (i j : Int) (a b : ArgD) (m : Nat) (H : Heap) (D : List (FuncId × List AVal)) (k : Kont) : sp15Turn (sp15St x y i j a b m H D) k =
    cond (decide ((m : Int) < a.path.length)) (cond (decide ((m : Int) < a.path.length)) (cond (decide ((m : Int) < b.path.length)) (cond (!(a.path.getD (m : Int).toNat [] == b.path.getD (m : Int).toNat []))
      (k .ret (stL 126 [0,1,4,5,6] [x, y, .bool false, .int .i64 i, .int .i64 j] [] [] H D)) (k .normal (sp15St x y i j a b (IntKind.i64.wrap ((m : Int) + 1)) H D))) none) none)
      (k (.exit 4) (stL 126 [0,1,4,5,6] [x, y, .undef, .int .i64 i, .int .i64 j] [] [] H D)) := by kernel_rfl
theorem sp15_ok : SpOK sp15Turn 126 [0,1,5,6,7,8,9] [7,8] [0,1,4,5,6] [] sp15 := by
  intro vs bs H k out ho
  unfold sp15 at ho
  split at ho
  case h_2 => simp at ho
  rename_i x y i j z c d
  rw [Bool.cond_eq_ite] at ho
  split at ho
  case isFalse => simp at ho
  rename_i hc
  obtain ⟨hx, hy, rfl, hab, hn⟩ := of_tst hc
  generalize decArg c = a at hx hab hn ho
  generalize decArg d = b at hy hab ho
  subst hx hy
  have hrun := fun D k => search_any (turn := sp15Turn) (S := fun m => sp15St x y i j a b (m : Nat) H D) (hit := fun m => !eqS (a.path.getD m []) (b.path.getD m [])) (n := a.path.length) (e0 := .exit 4) (e1 := .ret) (R0 := stL 126 [0,1,4,5,6] [x, y, .undef, .int .i64 i, .int .i64 j] [] [] H D) (R1 := stL 126 [0,1,4,5,6] [x, y, .bool false, .int .i64 i, .int .i64 j] [] [] H D)
    (fun m k hi => by rw [sp15_step0, decide_eq_true (show (m : Int) < a.path.length by omega), decide_eq_true (show (m : Int) < b.path.length by omega), wrap_add1 (by omega), Int.toNat_natCast]; rfl)
    (fun k => by rw [sp15_step0, decide_eq_false (by omega)]; rfl) (by simp) (by simp) k
  rw [all2_any [] a.path b.path hab] at hrun
  cases ha : !all2 eqS a.path b.path with
  | true =>
    rw [ha] at ho
    exact ⟨_, _, _, _, _, _, .refl _, ⟨_, fun D k => (hrun D k).trans (by rw [ha]; rfl)⟩, .refl _, ho⟩
  | false =>
    rw [ha] at ho
    exact ⟨_, _, _, _, _, _, .refl _, ⟨_, fun D k => (hrun D k).trans (by rw [ha]; rfl)⟩, .refl _, ho⟩

abbrev sp9Re (fa fb : Bool) (a b : List CallD) (i : Int) (H : Heap) (D : List (FuncId × List AVal)) : St := stL 126 [0,1,4,5] [encPipe fa a, encPipe fb b, .bool false, .int .i64 i] [] [] H D
abbrev sp9St (fa fb : Bool) (a b : List CallD) (i j : Int) (H : Heap) (D : List (FuncId × List AVal)) : St := stL 126 [0,1,5,6] [encPipe fa a, encPipe fb b, .int .i64 i, .int .i64 j] [] [] H D
theorem sp9_step0 (fa fb : Bool) (a b : List CallD) (i j : Nat) (H : Heap) (D : List (FuncId × List AVal)) (k : Kont) : sp9Turn (sp9St fa fb a b i j H D) k =
    cond (decide ((i : Int) < a.length)) (cond (decide ((j : Int) < (a.getD (i : Int).toNat callD0).args.length)) (cond (decide ((i : Int) < a.length)) (cond (decide ((j : Int) < (a.getD (i : Int).toNat callD0).args.length)) (cond (decide ((i : Int) < b.length)) (cond (decide ((j : Int) < (b.getD (i : Int).toNat callD0).args.length))
      (cond (cond (cond (cond (cond (((a.getD (i : Int).toNat callD0).args.getD (j : Int).toNat argD0).kind != ((b.getD (i : Int).toNat callD0).args.getD (j : Int).toNat argD0).kind) true (!(((a.getD (i : Int).toNat callD0).args.getD (j : Int).toNat argD0).name == ((b.getD (i : Int).toNat callD0).args.getD (j : Int).toNat argD0).name))) true (((a.getD (i : Int).toNat callD0).args.getD (j : Int).toNat argD0).int != ((b.getD (i : Int).toNat callD0).args.getD (j : Int).toNat argD0).int)) true (!(((a.getD (i : Int).toNat callD0).args.getD (j : Int).toNat argD0).text == ((b.getD (i : Int).toNat callD0).args.getD (j : Int).toNat argD0).text))) true ((((a.getD (i : Int).toNat callD0).args.getD (j : Int).toNat argD0).path.length : Int) != ((b.getD (i : Int).toNat callD0).args.getD (j : Int).toNat argD0).path.length)) (k .ret (sp9Re fa fb a b i H D))
        (cond (tst (encArg ((a.getD (i : Int).toNat callD0).args.getD (j : Int).toNat argD0) = encArg (decArg (encArg ((a.getD (i : Int).toNat callD0).args.getD (j : Int).toNat argD0))) ∧ encArg ((b.getD (i : Int).toNat callD0).args.getD (j : Int).toNat argD0) = encArg (decArg (encArg ((b.getD (i : Int).toNat callD0).args.getD (j : Int).toNat argD0))) ∧ (0 : Int) = 0 ∧ (decArg (encArg ((a.getD (i : Int).toNat callD0).args.getD (j : Int).toNat argD0))).path.length = (decArg (encArg ((b.getD (i : Int).toNat callD0).args.getD (j : Int).toNat argD0))).path.length ∧ (decArg (encArg ((a.getD (i : Int).toNat callD0).args.getD (j : Int).toNat argD0))).path.length ≤ 1099511627776))
          (cond (!all2 eqS (decArg (encArg ((a.getD (i : Int).toNat callD0).args.getD (j : Int).toNat argD0))).path (decArg (encArg ((b.getD (i : Int).toNat callD0).args.getD (j : Int).toNat argD0))).path) (k .ret (sp9Re fa fb a b i H D)) (k .normal (sp9St fa fb a b i (IntKind.i64.wrap ((j : Int) + 1)) H D))) none)) none) none) none) none)
      (k (.exit 2) (stL 126 [0,1,4,5] [encPipe fa a, encPipe fb b, .undef, .int .i64 i] [] [] H D))) none := by kernel_rfl
theorem sp9_step (fa fb : Bool) (a b : List CallD) (i j : Nat) (H : Heap) (D : List (FuncId × List AVal)) (k : Kont) (ha : okPipe a) (hb : okPipe b) (hi : i < a.length) (hib : i < b.length) (hab : (a.getD i callD0).args.length = (b.getD i callD0).args.length) (hj : j < (a.getD i callD0).args.length) :
    sp9Turn (sp9St fa fb a b i j H D) k = cond (!argEq ((a.getD i callD0).args.getD j argD0) ((b.getD i callD0).args.getD j argD0)) (k .ret (sp9Re fa fb a b i H D)) (k .normal (sp9St fa fb a b i ((j + 1 : Nat) : Int) H D)) := by
  have oc : okCall (a.getD i callD0) := getD_ok ha.2 hi
  have oa : okArg ((a.getD i callD0).args.getD j argD0) := getD_ok oc.2.1 hj
  have hal := oc.1
  rw [sp9_step0, decide_eq_true (show (i : Int) < a.length by omega), Int.toNat_natCast, Int.toNat_natCast, decide_eq_true (show (j : Int) < ((a.getD i callD0).args.length : Int) by omega), decide_eq_true (show (i : Int) < b.length by omega), decide_eq_true (show (j : Int) < ((b.getD i callD0).args.length : Int) by omega), wrap_add1 (by omega), decArg_enc, decArg_enc, len_ne]
  generalize (a.getD i callD0).args.getD j argD0 = x at oa ⊢
  generalize (b.getD i callD0).args.getD j argD0 = y
  unfold argEq
  rw [show (x.kind != y.kind) = (!(x.kind == y.kind)) from rfl, show (x.int != y.int) = (!(x.int == y.int)) from rfl]
  by_cases hp : x.path.length = y.path.length
  · rw [decide_eq_true hp, tst_true ⟨rfl, rfl, rfl, hp, oa.1⟩]
    simp only [cond_true]
    generalize (x.kind == y.kind) = b1
    generalize (x.name == y.name) = b2
    generalize (x.int == y.int) = b3
    generalize (x.text == y.text) = b4
    generalize all2 eqS x.path y.path = b5
    cases b1 <;> cases b2 <;> cases b3 <;> cases b4 <;> cases b5 <;> rfl
  · rw [decide_eq_false hp, all2_len _ _ hp]
    simp only [cond_true]
    generalize (x.kind == y.kind) = b1
    generalize (x.name == y.name) = b2
    generalize (x.int == y.int) = b3
    generalize (x.text == y.text) = b4
    cases b1 <;> cases b2 <;> cases b3 <;> cases b4 <;> rfl
theorem sp9_ok : SpOK sp9Turn 126 [0,1,5,6] [] [0,1,4,5] [] sp9 := by
  intro vs bs H k out ho
  unfold sp9 at ho
  split at ho
  case h_2 => simp at ho
  rename_i x y i z
  rw [Bool.cond_eq_ite] at ho
  split at ho
  case isFalse => simp at ho
  rename_i hc
  obtain ⟨hx, hy, oka, okb, hi0, hi1, hi2, rfl, hab, rfl⟩ := of_tst hc
  generalize fullOf x = fa at hx
  generalize fullOf y = fb at hy
  generalize decL decCall x = a at hx oka hi1 hab ho
  generalize decL decCall y = b at hy okb hi2 hab ho
  subst hx hy
  obtain ⟨i, rfl⟩ : ∃ n : Nat, i = n := ⟨i.toNat, by omega⟩
  rw [Int.toNat_natCast] at hab ho
  have hrun := fun D k => search_any (turn := sp9Turn) (S := fun j => sp9St fa fb a b i (j : Nat) H D) (hit := fun j => !argEq ((a.getD i callD0).args.getD j argD0) ((b.getD i callD0).args.getD j argD0)) (n := (a.getD i callD0).args.length) (e0 := .exit 2) (e1 := .ret)
    (R0 := stL 126 [0,1,4,5] [encPipe fa a, encPipe fb b, .undef, .int .i64 i] [] [] H D) (R1 := sp9Re fa fb a b i H D)
    (fun j k hj => sp9_step fa fb a b i j H D k oka okb (by omega) (by omega) hab hj)
    (fun k => by rw [sp9_step0, decide_eq_true hi1, Int.toNat_natCast, decide_eq_false (by omega)]; rfl) (by simp) (by simp) k
  rw [all2_any argD0 _ _ hab] at hrun
  cases ha : !all2 argEq (a.getD i callD0).args (b.getD i callD0).args with
  | true =>
    rw [ha] at ho
    exact ⟨_, _, _, _, _, _, .refl _, ⟨_, fun D k => (hrun D k).trans (by rw [ha]; rfl)⟩, .refl _, ho⟩
  | false =>
    rw [ha] at ho
    exact ⟨_, _, _, _, _, _, .refl _, ⟨_, fun D k => (hrun D k).trans (by rw [ha]; rfl)⟩, .refl _, ho⟩

abbrev sp4St (fa fb : Bool) (a b : List CallD) (i : Int) (H : Heap) (D : List (FuncId × List AVal)) : St := stL 126 [0,1,5] [encPipe fa a, encPipe fb b, .int .i64 i] [] [] H D
theorem sp4_step0 (fa fb : Bool) (a b : List CallD) (i : Nat) (H : Heap) (D : List (FuncId × List AVal)) (k : Kont) : sp4Turn (sp4St fa fb a b i H D) k =
    cond (decide ((i : Int) < a.length)) (cond (decide ((i : Int) < a.length)) (cond (decide ((i : Int) < b.length))
      (cond (decide ((i : Int) < a.length) || !!!((a.getD (i : Int).toNat callD0).name == (b.getD (i : Int).toNat callD0).name)) (cond (decide ((i : Int) < b.length) || !!!((a.getD (i : Int).toNat callD0).name == (b.getD (i : Int).toNat callD0).name))
        (cond (cond (!((a.getD (i : Int).toNat callD0).name == (b.getD (i : Int).toNat callD0).name)) true (((a.getD (i : Int).toNat callD0).args.length : Int) != (b.getD (i : Int).toNat callD0).args.length)) (k .ret (stL 126 [4] [.bool false] [] [] H D))
          (cond (tst (encPipe fa a = encPipe (fullOf (encPipe fa a)) (decL decCall (encPipe fa a)) ∧ encPipe fb b = encPipe (fullOf (encPipe fb b)) (decL decCall (encPipe fb b)) ∧ okPipe (decL decCall (encPipe fa a)) ∧ okPipe (decL decCall (encPipe fb b)) ∧ 0 ≤ (i : Int) ∧ (i : Int) < (decL decCall (encPipe fa a)).length ∧ (i : Int) < (decL decCall (encPipe fb b)).length ∧ (0 : Int) = 0 ∧ ((decL decCall (encPipe fa a)).getD (i : Int).toNat callD0).args.length = ((decL decCall (encPipe fb b)).getD (i : Int).toNat callD0).args.length ∧ ([] : List (List AVal)) = []))
            (cond (!all2 argEq ((decL decCall (encPipe fa a)).getD (i : Int).toNat callD0).args ((decL decCall (encPipe fb b)).getD (i : Int).toNat callD0).args) (k .ret (stL 126 [4] [.bool false] [] [] H D))
              (k .normal (sp4St fa fb a b (IntKind.i64.wrap ((i : Int) + 1)) H D))) none)) none) none) none) none)
      (k (.exit 0) (stL 126 [4] [.undef] [] [] H D)) := by kernel_rfl
theorem sp4_step (fa fb : Bool) (a b : List CallD) (i : Nat) (H : Heap) (D : List (FuncId × List AVal)) (k : Kont) (ha : okPipe a) (hb : okPipe b) (hi : i < a.length) (hib : i < b.length) :
    sp4Turn (sp4St fa fb a b i H D) k = cond (!callEq (a.getD i callD0) (b.getD i callD0)) (k .ret (stL 126 [4] [.bool false] [] [] H D)) (k .normal (sp4St fa fb a b ((i + 1 : Nat) : Int) H D)) := by
  have hal := ha.1
  rw [sp4_step0, decide_eq_true (show (i : Int) < a.length by omega), decide_eq_true (show (i : Int) < b.length by omega), wrap_add1 (by omega), len_ne, decPipe_enc, decPipe_enc, Int.toNat_natCast]
  unfold callEq
  by_cases hp : (a.getD i callD0).args.length = (b.getD i callD0).args.length
  · rw [decide_eq_true hp, tst_true ⟨rfl, rfl, ha, hb, by omega, by omega, by omega, rfl, hp, rfl⟩]
    generalize ((a.getD i callD0).name == (b.getD i callD0).name) = b1
    generalize all2 argEq (a.getD i callD0).args (b.getD i callD0).args = b2
    cases b1 <;> cases b2 <;> rfl
  · rw [decide_eq_false hp, all2_len _ _ hp]
    generalize ((a.getD i callD0).name == (b.getD i callD0).name) = b1
    cases b1 <;> rfl
theorem sp4_ok : SpOK sp4Turn 126 [0,1,5] [] [4] [] sp4 := by
  intro vs bs H k out ho
  unfold sp4 at ho
  split at ho
  case h_2 => simp at ho
  rename_i x y z
  rw [Bool.cond_eq_ite] at ho
  split at ho
  case isFalse => simp at ho
  rename_i hc
  obtain ⟨hx, hy, oka, okb, rfl, hab, rfl⟩ := of_tst hc
  generalize fullOf x = fa at hx
  generalize fullOf y = fb at hy
  generalize decL decCall x = a at hx oka hab ho
  generalize decL decCall y = b at hy okb hab ho
  subst hx hy
  have hrun := fun D k => search_any (turn := sp4Turn) (S := fun i => sp4St fa fb a b (i : Nat) H D) (hit := fun i => !callEq (a.getD i callD0) (b.getD i callD0)) (n := a.length) (e0 := .exit 0) (e1 := .ret)
    (R0 := stL 126 [4] [.undef] [] [] H D) (R1 := stL 126 [4] [.bool false] [] [] H D)
    (fun i k hi => sp4_step fa fb a b i H D k oka okb hi (by omega))
    (fun k => by rw [sp4_step0, decide_eq_false (by omega)]; rfl) (by simp) (by simp) k
  rw [all2_any callD0 _ _ hab] at hrun
  cases ha : !all2 callEq a b with
  | true =>
    rw [ha] at ho
    exact ⟨_, _, _, _, _, _, .refl _, ⟨_, fun D k => (hrun D k).trans (by rw [ha]; rfl)⟩, .refl _, ho⟩
  | false =>
    rw [ha] at ho
    exact ⟨_, _, _, _, _, _, .refl _, ⟨_, fun D k => (hrun D k).trans (by rw [ha]; rfl)⟩, .refl _, ho⟩
abbrev spF : Nat := 15
theorem sp_loops : LOk Tryd.prog spFH (codeOf Tryd.prog spF) := by
  have f15 : spFH.loops (firstRegion (loopAt 15 (codeOf Tryd.prog spF))) = some (loopSpec 126 [0,1,5,6,7,8,9] [7,8] [0,1,4,5,6] [] sp15) := by kernel_rfl
  have f9 : spFH.loops (firstRegion (loopAt 9 (codeOf Tryd.prog spF))) = some (loopSpec 126 [0,1,5,6] [] [0,1,4,5] [] sp9) := by kernel_rfl
  have f4 : spFH.loops (firstRegion (loopAt 4 (codeOf Tryd.prog spF))) = some (loopSpec 126 [0,1,5] [] [4] [] sp4) := by kernel_rfl
  have e15 : loopsIn (loopAt 15 (codeOf Tryd.prog spF)) = [] := by kernel_rfl
  have e9 : loopsIn (loopAt 9 (codeOf Tryd.prog spF)) = [loopAt 15 (codeOf Tryd.prog spF)] := by kernel_rfl
  have e4 : loopsIn (loopAt 4 (codeOf Tryd.prog spF)) = [loopAt 9 (codeOf Tryd.prog spF), loopAt 15 (codeOf Tryd.prog spF)] := by kernel_rfl
  have e : loopsIn (codeOf Tryd.prog spF) = [loopAt 4 (codeOf Tryd.prog spF), loopAt 9 (codeOf Tryd.prog spF), loopAt 15 (codeOf Tryd.prog spF)] := by kernel_rfl
  have t15 : LoopTold Tryd.prog (loopAt 15 (codeOf Tryd.prog spF)) (loopSpec 126 [0,1,5,6,7,8,9] [7,8] [0,1,4,5,6] [] sp15) := layK_ok.told (LOk.of _ (fun d hd => by rw [e15] at hd; cases hd)) sp15_ok
  have t9 : LoopTold Tryd.prog (loopAt 9 (codeOf Tryd.prog spF)) (loopSpec 126 [0,1,5,6] [] [0,1,4,5] [] sp9) := layK_ok.told (LOk.of _ (fun d hd sp hsp => by
    rw [e9, List.mem_singleton] at hd
    subst hd
    rw [f15, Option.some.injEq] at hsp
    subst hsp; exact t15)) sp9_ok
  have t4 : LoopTold Tryd.prog (loopAt 4 (codeOf Tryd.prog spF)) (loopSpec 126 [0,1,5] [] [4] [] sp4) := layK_ok.told (LOk.of _ (fun d hd sp hsp => by
    rw [e4, List.mem_cons, List.mem_singleton] at hd
    rcases hd with rfl | rfl
    · rw [f9, Option.some.injEq] at hsp
      subst hsp; exact t9
    · rw [f15, Option.some.injEq] at hsp
      subst hsp; exact t15)) sp4_ok
  refine LOk.of _ (fun d hd sp hsp => ?_)
  rw [e, List.mem_cons, List.mem_cons, List.mem_singleton] at hd
  rcases hd with rfl | rfl | rfl
  · rw [f4, Option.some.injEq] at hsp
    subst hsp; exact t4
  · rw [f9, Option.some.injEq] at hsp
    subst hsp; exact t9
  · rw [f15, Option.some.injEq] at hsp
    subst hsp; exact t15
noncomputable def layT : Lay := layK.addL spF spFH
theorem layT_ok : layT.OK Tryd.prog := layK_ok.addL sp_loops
theorem sp_fun (fa fb : Bool) (a b : List CallD) (k : Out → Ans) : iFun Tryd.prog (layT.hd Tryd.prog) layT.fhs 0 15 [encPipe fa a, encPipe fb b] [] k =
    cond ((a.length : Int) != b.length) (k (.ret (.bool false) []))
      (cond (tst (encPipe fa a = encPipe (fullOf (encPipe fa a)) (decL decCall (encPipe fa a)) ∧ encPipe fb b = encPipe (fullOf (encPipe fb b)) (decL decCall (encPipe fb b)) ∧ okPipe (decL decCall (encPipe fa a)) ∧ okPipe (decL decCall (encPipe fb b)) ∧ (0 : Int) = 0 ∧ (decL decCall (encPipe fa a)).length = (decL decCall (encPipe fb b)).length ∧ ([] : List (List AVal)) = []))
        (cond (!all2 callEq (decL decCall (encPipe fa a)) (decL decCall (encPipe fb b))) (k (.ret (.bool false) [])) (k (.ret (.bool true) []))) none) := by kernel_rfl
theorem sp_call {a b : List CallD} (ha : okPipe a) (hb : okPipe b) (fa fb : Bool) (k : Out → Ans) : iFun Tryd.prog (layT.hd Tryd.prog) layT.fhs 0 15 [encPipe fa a, encPipe fb b] [] k = k (.ret (.bool (pipeEq a b)) []) := by
  rw [sp_fun, len_ne, decPipe_enc, decPipe_enc]
  unfold pipeEq
  by_cases h : a.length = b.length
  · rw [decide_eq_true h, tst_true ⟨rfl, rfl, ha, hb, rfl, h, rfl⟩]
    cases all2 callEq a b <;> rfl
  · rw [decide_eq_false h, all2_len a b h]; rfl
theorem spTold_ok (xs : List AVal) (H : Heap) (k : Out → Ans) (out : Out) (ho : sameTold xs H k = some out) : ∃ o, CallOK Tryd.prog 15 xs H o ∧ k o = some out := by
  unfold sameTold at ho
  split at ho
  · rename_i x y
    rw [Bool.cond_eq_ite] at ho
    split at ho
    · rename_i hc
      obtain ⟨hx, hy, hn, hm⟩ := of_tst hc
      generalize fullOf x = fa at hx
      generalize fullOf y = fb at hy
      generalize decL decCall x = a at hx hn ho
      generalize decL decCall y = b at hy hm ho
      subst hx hy
      exact ⟨_, layT_ok.call (sp_call hn hm fa fb), ho⟩
    · simp at ho
  · simp at ho
end Go.Mu
