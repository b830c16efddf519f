/-
  Lemmas on the given program (part 5).
-/
import Derived.Test.YtfepcpcnfibbnaaDoorG4
import Derived.Test.YtfepcpcnfibbnaaDoorRows
set_option linter.unusedVariables false
set_option linter.unusedSimpArgs false
set_option maxRecDepth 100000
namespace Go.Mu
open Go Go.Proofs
structure StA where
  w : WdH
  x : Bld
  at_ : Nat
  i : Nat
abbrev stP (w : WdH) (x : Bld) : Heap := b7P w.U0 w.U1 w.U2 (.var [.str w.s, .int .i64 w.base, .int .i64 w.a, w.o]) (.note wsT 4) w.O (.note wdT 0) x.ad x.b (.arr 1 x.rows x.v)
noncomputable def layS1 : Lay := b7_lay layX3
theorem layS1_ok : layS1.OK Tryd.prog := b7_ok layX3_ok
/-- where an escaped octet stands among the four -/
def escI (d : UInt8) : Int :=
  let n11 : Int := if (34 == d) = true then 0 else -1
  let n12 : Int := if (92 == d) = true then 0 else if (n11 == -1) = true then -1 else n11 + 1
  let n13 : Int := if (116 == d) = true then 0 else if (n12 == -1) = true then -1 else n12 + 1
  if (110 == d) = true then 0 else if (n13 == -1) = true then -1 else n13 + 1
def escO (d : UInt8) : UInt8 := [10, 9, 92, 34].getD (escI d).toNat 0
theorem escI_lt (d : UInt8) : escI d < 4 := by
  have h : ∀ n : Fin 256, escI (UInt8.ofNat n) < 4 := by decide +kernel
  have := h ⟨d.toNat, d.toNat_lt⟩
  simpa using this
theorem toU8 (c : UInt8) : ((c.toNat : Int).toNat).toUInt8 = c := by simp
theorem ofU8 (c : UInt8) : UInt8.ofNat (c.toNat : Int).toNat = c := by simp
theorem nec {c : UInt8} {n : Nat} (h : n < 256) : ((c.toNat : Int) != no_index (@OfNat.ofNat Int n _)) = !(c == (@OfNat.ofNat UInt8 n _)) := by
  rw [bne, eqc h]
structure StR where
  e : Int
  fin : Bool
  off : Nat
  text : List UInt8
  to : Nat
  x : Bld
def strM (at_ : Nat) : List UInt8 → Bld → Nat → StR
  | [], x, i => ⟨33, true, at_, [], 0, x⟩
  | [c], x, i => bif c == 34 then (bif decide (x.t.length ≤ 4096) then ⟨0, false, 0, x.t, i + 1, x.dead⟩ else ⟨5, false, at_, [], 0, x⟩) else bif c == 92 || c == 10 then ⟨33, false, i, [], 0, x⟩ else ⟨33, true, at_, [], 0, x.add 7 9 [c]⟩
  | c :: d :: u, x, i => bif c == 34 then (bif decide (x.t.length ≤ 4096) then ⟨0, false, 0, x.t, i + 1, x.dead⟩ else ⟨5, false, at_, [], 0, x⟩) else bif c == 92 && decide (escI d ≥ 0) then strM at_ u (x.add 7 9 [escO d]) (i + 2) else bif c == 92 || c == 10 then ⟨33, false, i, [], 0, x⟩ else strM at_ (d :: u) (x.add 7 9 [c]) (i + 1)
noncomputable def strwSp : LSp := mkL (fun vs _ H => (WdH.dec H, bld H 7 9, (aI vs 1).toNat, (aI vs 3).toNat)) (fun x => WdOk x.1 ∧ x.2.2.1 ≤ x.1.s.length ∧ x.2.2.2 ≤ x.1.s.length ∧ x.2.1.can 7 9 ∧ x.2.1.t.length ≤ x.2.2.2) (fun x => [.ptr (.hp 3) 0, .int .i64 x.2.2.1, .ptr (.hp 7) 0, .int .i64 x.2.2.2]) (fun _ => []) (fun x => stP x.1 x.2.1)
  (fun x k => cond ((strM x.2.2.1 (x.1.s.drop x.2.2.2) x.2.1 x.2.2.2).e == 0) (k .ret [.ptr (.hp 3) 0, .int .i64 x.2.2.1, .str (strM x.2.2.1 (x.1.s.drop x.2.2.2) x.2.1 x.2.2.2).text, .int .i64 (strM x.2.2.1 (x.1.s.drop x.2.2.2) x.2.1 x.2.2.2).to] [] (stP x.1 (strM x.2.2.1 (x.1.s.drop x.2.2.2) x.2.1 x.2.2.2).x))
    (cond (strM x.2.2.1 (x.1.s.drop x.2.2.2) x.2.1 x.2.2.2).fin (k (.exit 0) [.ptr (.hp 3) 0, .int .i64 x.2.2.1, .undef, .undef] [] (stP x.1 (strM x.2.2.1 (x.1.s.drop x.2.2.2) x.2.1 x.2.2.2).x))
      (k (.panic (flt (x.1.base + (strM x.2.2.1 (x.1.s.drop x.2.2.2) x.2.1 x.2.2.2).off) (strM x.2.2.1 (x.1.s.drop x.2.2.2) x.2.1 x.2.2.2).e)) [.ptr (.hp 3) 0, .int .i64 x.2.2.1, .undef, .undef] [] (stP x.1 (strM x.2.2.1 (x.1.s.drop x.2.2.2) x.2.1 x.2.2.2).x))))
noncomputable def strwFH : FH := { FH.of [(3, loopSpec 98 [0,1,6,7] [] [0,1,4,5] [] strwSp)] with heap := [6], typed := [(6, [(0, bT)])], exact := true }
theorem strw_step (U0 U1 U2 : Obj) (s : List UInt8) (base a : Int) (o : AVal) (O : Obj) (x : Bld) (at_ i : Int) (D : List (FuncId × List AVal)) (k : Kont) (n0 : Int) (e_n0 : n0 = ((↑s.length : Int)))
  (c1 : Bool) (e_c1 : c1 = (decide (i < n0)))
  (n2 : Int) (e_n2 : n2 = ((↑(s.getD i.toNat 0).toNat : Int)))
  (l3 : List UInt8) (e_l3 : l3 = ((Bld.mk x.ad x.b x.rows x.v).t))
  (m4 : Nat) (e_m4 : m4 = (l3.length))
  (c5 : Bool) (e_c5 : c5 = (sameV (AVal.int IntKind.i64 base) (AVal.int IntKind.i64 base) && true && true && true))
  (n6 : Int) (e_n6 : n6 = (IntKind.i64.wrap (i + 1)))
  (c7 : Bool) (e_c7 : c7 = (decide (n6 < n0)))
  (c8 : Bool) (e_c8 : c8 = (decide (0 ≤ n6) && c7))
  (c9 : Bool) (e_c9 : c9 = (bif n2 == 92 then c7 else false))
  (v10 : UInt8) (e_v10 : v10 = ((↑(s.getD n6.toNat 0).toNat : Int).toNat.toUInt8))
  (n11 : Int) (e_n11 : n11 = (if (34 == v10) = true then 0 else -1))
  (n12 : Int) (e_n12 : n12 = (if (92 == v10) = true then 0 else if (n11 == -1) = true then -1 else n11 + 1))
  (n13 : Int) (e_n13 : n13 = (if (116 == v10) = true then 0 else if (n12 == -1) = true then -1 else n12 + 1))
  (n14 : Int) (e_n14 : n14 = (if (110 == v10) = true then 0 else if (n13 == -1) = true then -1 else n13 + 1))
  (n15 : Int) (e_n15 : n15 = ((↑(([10, 9, 92, 34] : List UInt8).getD n14.toNat 0).toNat : Int)))
  (v16 : UInt8) (e_v16 : v16 = (UInt8.ofNat n15.toNat))
  (l17 : List UInt8) (e_l17 : l17 = ([v16]))
  (m18 : Nat) (e_m18 : m18 = (wsV l3 l17 x.v))
  (v19 : UInt8) (e_v19 : v19 = (UInt8.ofNat n2.toNat))
  (l20 : List UInt8) (e_l20 : l20 = ([v19]))
  (m21 : Nat) (e_m21 : m21 = (wsV l3 l20 x.v)) : lturn Tryd.prog layS1 strwFH 87 3 [0,1,6,7] [] [0,1,4,5] [] (stL 98 [0,1,6,7] [.ptr (.hp 3) 0, .int .i64 at_, .ptr (.hp 7) 0, .int .i64 i] [] [] (stP ⟨U0, U1, U2, s, base, a, o, O⟩ x) D) k = (
  bif c1 then
    bif decide (0 ≤ i) && c1 then
      bif n2 == 34 then
        bif
            tst
              (Bld.can 7 9 (Bld.mk x.ad x.b x.rows x.v) ∧
                SubL [AVal.ptr (Oid.hp 7) 0] [AVal.ptr (Oid.hp 7) 0] ∧
                  stP (WdH.mk U0 U1 U2 s base a o O) x =
                    (b7H.mk U0 U1 U2 (Obj.var [AVal.str s, AVal.int IntKind.i64 base, AVal.int IntKind.i64 a, o])
                        (Obj.note 83 4) O (Obj.note 62 0) (Bld.mk x.ad x.b x.rows x.v)).heap) then
          bif !decide ((↑m4 : Int) ≤ 4096) then
            bif c5 then
              k
                (AExit.panic
                  (AVal.iface 79
                    (AVal.agg [AVal.int IntKind.i64 (IntKind.i64.wrap (base + at_)), AVal.int IntKind.i64 5])))
                (stL 98 [0, 1, 4, 5] [AVal.ptr (Oid.hp 3) 0, AVal.int IntKind.i64 at_, AVal.undef, AVal.undef] [] []
                  (b7H.mk U0 U1 U2 (Obj.var [AVal.str s, AVal.int IntKind.i64 base, AVal.int IntKind.i64 a, o])
                      (Obj.note 83 4) O (Obj.note 62 0) (Bld.mk x.ad x.b x.rows x.v)).heap
                  D)
            else none
          else
            bif c5 then
              bif
                  tst
                    ((Bld.can 7 9 (Bld.mk x.ad x.b x.rows x.v) ∧ m4 ≤ 1099511627776) ∧
                      SubL [AVal.ptr (Oid.hp 7) 0] [AVal.ptr (Oid.hp 7) 0] ∧
                        (b7H.mk U0 U1 U2 (Obj.var [AVal.str s, AVal.int IntKind.i64 base, AVal.int IntKind.i64 a, o])
                              (Obj.note 83 4) O (Obj.note 62 0) (Bld.mk x.ad x.b x.rows x.v)).heap =
                          (b7H.mk U0 U1 U2 (Obj.var [AVal.str s, AVal.int IntKind.i64 base, AVal.int IntKind.i64 a, o])
                              (Obj.note 83 4) O (Obj.note 62 0) (Bld.mk x.ad x.b x.rows x.v)).heap) then
                k AExit.ret
                  (stL 98 [0, 1, 4, 5]
                    [AVal.ptr (Oid.hp 3) 0, AVal.int IntKind.i64 at_, AVal.str l3, AVal.int IntKind.i64 n6] [] []
                    (b7H.mk U0 U1 U2 (Obj.var [AVal.str s, AVal.int IntKind.i64 base, AVal.int IntKind.i64 a, o])
                        (Obj.note 83 4) O (Obj.note 62 0) (Bld.mk x.ad x.b [] (bif l3 == [] then x.v else x.v + 1))).heap
                    D)
              else none
            else none
        else none
      else
        bif c8 || !c9 then
          bif bif c9 then decide (n14 ≥ 0) else false then
            bif c8 then
              bif decide (0 ≤ n14) && decide (n14 < 4) then
                bif
                    tst
                      ((Bld.can 7 9 (Bld.mk x.ad x.b x.rows x.v) ∧ m4 ≤ 1073741824) ∧
                        SubL [AVal.ptr (Oid.hp 7) 0, AVal.int IntKind.u8 n15]
                            [AVal.ptr (Oid.hp 7) 0, AVal.int IntKind.u8 (↑v16.toNat : Int)] ∧
                          stP (WdH.mk U0 U1 U2 s base a o O) x =
                            (b7H.mk U0 U1 U2 (Obj.var [AVal.str s, AVal.int IntKind.i64 base, AVal.int IntKind.i64 a, o])
                                (Obj.note 83 4) O (Obj.note 62 0) (Bld.mk x.ad x.b x.rows x.v)).heap) then
                  k AExit.normal
                    (stL 98 [0, 1, 6, 7]
                      [AVal.ptr (Oid.hp 3) 0, AVal.int IntKind.i64 at_, AVal.ptr (Oid.hp 7) 0,
                        AVal.int IntKind.i64 (IntKind.i64.wrap (n6 + 1))]
                      [] []
                      (b7H.mk U0 U1 U2 (Obj.var [AVal.str s, AVal.int IntKind.i64 base, AVal.int IntKind.i64 a, o])
                          (Obj.note 83 4) O (Obj.note 62 0)
                          (Bld.mk (AVal.ptr (Oid.hp 7) 0) (bfB 9 (l3.append l17) m18)
                            (x.rows.append [[AVal.int IntKind.u8 (↑v16.toNat : Int)]]) m18)).heap
                      D)
                else none
              else none
            else none
          else
            bif !bif n2 != 92 then n2 != 10 else false then
              k
                (AExit.panic
                  (AVal.iface 79
                    (AVal.agg [AVal.int IntKind.i64 (IntKind.i64.wrap (base + i)), AVal.int IntKind.i64 33])))
                (stL 98 [0, 1, 4, 5] [AVal.ptr (Oid.hp 3) 0, AVal.int IntKind.i64 at_, AVal.undef, AVal.undef] [] []
                  (stP (WdH.mk U0 U1 U2 s base a o O) x) D)
            else
              bif
                  tst
                    ((Bld.can 7 9 (Bld.mk x.ad x.b x.rows x.v) ∧ m4 ≤ 1073741824) ∧
                      SubL [AVal.ptr (Oid.hp 7) 0, AVal.int IntKind.u8 n2]
                          [AVal.ptr (Oid.hp 7) 0, AVal.int IntKind.u8 (↑v19.toNat : Int)] ∧
                        stP (WdH.mk U0 U1 U2 s base a o O) x =
                          (b7H.mk U0 U1 U2 (Obj.var [AVal.str s, AVal.int IntKind.i64 base, AVal.int IntKind.i64 a, o])
                              (Obj.note 83 4) O (Obj.note 62 0) (Bld.mk x.ad x.b x.rows x.v)).heap) then
                k AExit.normal
                  (stL 98 [0, 1, 6, 7]
                    [AVal.ptr (Oid.hp 3) 0, AVal.int IntKind.i64 at_, AVal.ptr (Oid.hp 7) 0, AVal.int IntKind.i64 n6] []
                    []
                    (b7H.mk U0 U1 U2 (Obj.var [AVal.str s, AVal.int IntKind.i64 base, AVal.int IntKind.i64 a, o])
                        (Obj.note 83 4) O (Obj.note 62 0)
                        (Bld.mk (AVal.ptr (Oid.hp 7) 0) (bfB 9 (l3.append l20) m21)
                          (x.rows.append [[AVal.int IntKind.u8 (↑v19.toNat : Int)]]) m21)).heap
                    D)
              else none
        else none
    else none
  else
    k (AExit.exit 0)
      (stL 98 [0, 1, 4, 5] [AVal.ptr (Oid.hp 3) 0, AVal.int IntKind.i64 at_, AVal.undef, AVal.undef] [] []
        (stP (WdH.mk U0 U1 U2 s base a o O) x) D)) := by
  subst e_n0 e_c1 e_n2 e_l3 e_m4 e_c5 e_n6 e_c7 e_c8 e_c9 e_v10 e_n11 e_n12 e_n13 e_n14 e_n15 e_v16 e_l17 e_m18 e_v19 e_l20 e_m21
  kernel_rfl
def StR.ex (r : StR) (base : Int) : AExit := cond (r.e == 0) .ret (cond r.fin (.exit 0) (.panic (flt (base + r.off) r.e)))
def StR.vs (r : StR) (at_ : Nat) : List AVal := [.ptr (.hp 3) 0, .int .i64 at_, cond (r.e == 0) (.str r.text) .undef, cond (r.e == 0) (.int .i64 r.to) .undef]
theorem strw_runs (w : WdH) (hw : WdOk w) (at_ : Nat) (ha : at_ ≤ w.s.length) : ∀ (m : Nat) (x : Bld) (i : Nat), w.s.length - i ≤ m → i ≤ w.s.length → x.can 7 9 → x.t.length ≤ i →
    LoopRuns (lturn Tryd.prog layS1 strwFH 87 3 [0,1,6,7] [] [0,1,4,5] []) 98 [0,1,6,7] [] [0,1,4,5] [] [.ptr (.hp 3) 0, .int .i64 at_, .ptr (.hp 7) 0, .int .i64 i] [] (stP w x)
      ((strM at_ (w.s.drop i) x i).ex w.base) ((strM at_ (w.s.drop i) x i).vs at_) [] (stP w (strM at_ (w.s.drop i) x i).x) := by
  obtain ⟨U0, U1, U2, s, base, a, o, O⟩ := w
  obtain ⟨h1, h2, h3⟩ := hw
  simp only at h1 h2 h3 ha ⊢
  intro m
  induction m using Nat.strongRecOn with
  | _ m ih =>
  intro x i hm hi hx hl
  by_cases hlt : i < s.length
  case neg =>
    have e : s.drop i = [] := List.drop_eq_nil_of_le (by omega)
    rw [e]
    refine .stop (by simp [strM, StR.ex]) (fun D k => ?_)
    exact (strw_step U0 U1 U2 s base a o O x at_ i D k _ rfl false (by rw [dF (by omega)]) _ rfl _ rfl _ rfl _ rfl _ rfl _ rfl _ rfl _ rfl _ rfl _ rfl _ rfl _ rfl _ rfl _ rfl _ rfl _ rfl _ rfl _ rfl _ rfl _ rfl).trans rfl
  have e2 : IntKind.i64.wrap ((i : Int) + 1) = ((i + 1 : Nat) : Int) := by rw [wrap_of (by omega) (by omega)]; omega
  have e3 : ((i + 1 : Nat) : Int) + 1 = ((i + 2 : Nat) : Int) := by omega
  have ed := drop_cons_of s i 0 hlt
  generalize hc : s.getD i 0 = c at ed
  have key := fun D k => strw_step U0 U1 U2 s base a o O x at_ i D k _ rfl true (by rw [dT (by omega)]) (c.toNat : Int) (by rw [Int.toNat_natCast, hc]) x.t rfl _ rfl true (by rw [sameV_refl]; rfl) ((i + 1 : Nat) : Int) (by rw [e2])
  by_cases hlt2 : i + 1 < s.length
  · have ed2 := drop_cons_of s (i + 1) 0 hlt2
    generalize hd : s.getD (i + 1) 0 = d at ed2
    have he : s.drop i = c :: d :: s.drop (i + 2) := by rw [ed, ed2]
    have key2 := fun D k => key D k true (by rw [dT (by omega)]) true (by rw [dT (by omega)]; rfl) (c == 92) (by rw [eqc (by decide)]; cases c == 92 <;> rfl) d (by simp only [Int.toNat_natCast, hd]; simp) _ rfl _ rfl _ rfl (escI d) rfl ((escO d).toNat : Int) rfl (escO d) (by rw [ofU8]) _ rfl _ rfl c (by rw [ofU8]) _ rfl _ rfl
    clear key
    rw [he, strM]
    simp (disch := first | omega | decide) only [dT, cond_true, Bool.true_and, Bool.true_or, eqc, nec, wrap_of, bif_and, Bool.and_self] at key2
    cases h34 : c == 34 with
    | true =>
      simp only [h34, cond_true] at key2 ⊢
      replace key2 := fun D k => (key2 D k).trans ((congrArg (fun c => cond c _ none) (tst_true ⟨hx, .refl _, by trivial⟩)).trans rfl)
      by_cases hn : x.t.length ≤ 4096
      · simp (disch := omega) only [dT, Bool.not_true, cond_false, cond_true] at key2 ⊢
        replace key2 := fun D k => (key2 D k).trans ((congrArg (fun c => cond c _ none) (tst_true ⟨⟨hx, show x.t.length ≤ 1099511627776 by omega⟩, .refl _, by trivial⟩)).trans rfl)
        exact .stop (by simp [StR.ex]) key2
      · simp (disch := omega) only [dF, Bool.not_false, cond_false, cond_true] at key2 ⊢
        exact .stop (by simp [StR.ex]) key2
    | false =>
      simp only [h34, cond_false] at key2 ⊢
      have tb : ∀ e : UInt8, tst ((Bld.can 7 9 (Bld.mk x.ad x.b x.rows x.v) ∧ x.t.length ≤ 1073741824) ∧ SubL [AVal.ptr (Oid.hp 7) 0, AVal.int IntKind.u8 e.toNat] [AVal.ptr (Oid.hp 7) 0, AVal.int IntKind.u8 e.toNat] ∧ True) = true := fun e => tst_true ⟨⟨hx, by omega⟩, .refl _, trivial⟩
      cases h92 : c == 92 && decide (escI d ≥ 0) with
      | true =>
        simp only [h92, cond_true] at key2 ⊢
        have h0 : escI d ≥ 0 := by rw [Bool.and_eq_true, decide_eq_true_eq] at h92; exact h92.2
        have h4 := escI_lt d
        simp (disch := omega) only [dT, Bool.and_self, cond_true] at key2
        replace key2 := fun D k => (key2 D k).trans ((congrArg (fun c => cond c _ none) (tb (escO d))).trans rfl)
        have ih2 := ih (m - 2) (by omega) (x.add 7 9 [escO d]) (i + 2) (by omega) (by omega) (Bld.add_can hx _) (by rw [Bld.add_t, List.length_append]; show _ + 1 ≤ _; omega)
        rw [e3] at key2
        exact .step key2 ih2
      | false =>
        simp only [h92, cond_false] at key2 ⊢
        have en : (!(!(c == 92) && !(c == 10))) = (c == 92 || c == 10) := by cases c == 92 <;> cases c == 10 <;> rfl
        simp only [en] at key2
        cases hb : c == 92 || c == 10 with
        | true =>
          simp only [hb, cond_true] at key2 ⊢
          exact .stop (by simp [StR.ex]) key2
        | false =>
          simp only [hb, cond_false] at key2 ⊢
          replace key2 := fun D k => (key2 D k).trans ((congrArg (fun c => cond c _ none) (tb c)).trans rfl)
          have ih2 := ih (m - 1) (by omega) (x.add 7 9 [c]) (i + 1) (by omega) (by omega) (Bld.add_can hx _) (by rw [Bld.add_t, List.length_append]; show _ + 1 ≤ _; omega)
          rw [ed2] at ih2
          exact .step key2 ih2
  · have he : s.drop i = [c] := by rw [ed, List.drop_eq_nil_of_le (by omega)]
    have key2 := fun D k => key D k false (by rw [dF (by omega)]) false (by rw [Bool.and_false]) false (by cases ((c.toNat : Int) == 92) <;> rfl) _ rfl _ rfl _ rfl _ rfl _ rfl _ rfl _ rfl _ rfl _ rfl c (by rw [ofU8]) _ rfl _ rfl
    clear key
    rw [he, strM]
    simp (disch := first | omega | decide) only [dT, cond_true, Bool.true_and, Bool.or_true, eqc, nec, bif_and, Bool.and_self, Bool.not_false, cond_false, Bool.false_and, wrap_of] at key2
    have tb : ∀ e : UInt8, tst ((Bld.can 7 9 (Bld.mk x.ad x.b x.rows x.v) ∧ x.t.length ≤ 1073741824) ∧ SubL [AVal.ptr (Oid.hp 7) 0, AVal.int IntKind.u8 e.toNat] [AVal.ptr (Oid.hp 7) 0, AVal.int IntKind.u8 e.toNat] ∧ True) = true := fun e => tst_true ⟨⟨hx, by omega⟩, .refl _, trivial⟩
    cases h34 : c == 34 with
    | true =>
      simp only [h34, cond_true] at key2 ⊢
      replace key2 := fun D k => (key2 D k).trans ((congrArg (fun c => cond c _ none) (tst_true ⟨hx, .refl _, by trivial⟩)).trans rfl)
      by_cases hn : x.t.length ≤ 4096
      · simp (disch := omega) only [dT, Bool.not_true, cond_false, cond_true] at key2 ⊢
        replace key2 := fun D k => (key2 D k).trans ((congrArg (fun c => cond c _ none) (tst_true ⟨⟨hx, show x.t.length ≤ 1099511627776 by omega⟩, .refl _, by trivial⟩)).trans rfl)
        exact .stop (by simp [StR.ex]) key2
      · simp (disch := omega) only [dF, Bool.not_false, cond_false, cond_true] at key2 ⊢
        exact .stop (by simp [StR.ex]) key2
    | false =>
      simp only [h34, cond_false] at key2 ⊢
      have en : (!(!(c == 92) && !(c == 10))) = (c == 92 || c == 10) := by cases c == 92 <;> cases c == 10 <;> rfl
      simp only [en] at key2
      cases hb : c == 92 || c == 10 with
      | true =>
        simp only [hb, cond_true] at key2 ⊢
        exact .stop (by simp [StR.ex]) key2
      | false =>
        simp only [hb, cond_false] at key2 ⊢
        replace key2 := fun D k => (key2 D k).trans ((congrArg (fun c => cond c _ none) (tb c)).trans rfl)
        have ih2 := ih (m - 1) (by omega) (x.add 7 9 [c]) (i + 1) (by omega) (by omega) (Bld.add_can hx _) (by rw [Bld.add_t, List.length_append]; show _ + 1 ≤ _; omega)
        rw [List.drop_eq_nil_of_le (show s.length ≤ i + 1 by omega), strM] at ih2
        exact .step key2 ih2
theorem strwSp_ok : SpOK (lturn Tryd.prog layS1 strwFH 87 3 [0,1,6,7] [] [0,1,4,5] []) 98 [0,1,6,7] [] [0,1,4,5] [] strwSp := mkL_ok fun a h => by
  obtain ⟨w, x, at_, i⟩ := a
  have key := strw_runs w h.1 at_ h.2.1 _ x i (Nat.le_refl _) h.2.2.1 h.2.2.2.1 h.2.2.2.2
  show ∃ e vs bs H, (∀ k : AExit → List AVal → List (List AVal) → Heap → Ans, cond ((strM at_ (w.s.drop i) x i).e == 0) _ (cond (strM at_ (w.s.drop i) x i).fin _ _) = k e vs bs H) ∧ _
  unfold StR.ex StR.vs at key
  cases hb : (strM at_ (w.s.drop i) x i).e == 0 with
  | true => rw [hb] at key; exact ⟨_, _, _, _, fun k => rfl, key⟩
  | false =>
    rw [hb] at key
    cases hf : (strM at_ (w.s.drop i) x i).fin with
    | true => rw [hf] at key; exact ⟨_, _, _, _, fun k => rfl, key⟩
    | false => rw [hf] at key; exact ⟨_, _, _, _, fun k => rfl, key⟩
noncomputable def layS2 : Lay := layS1.addL 87 strwFH
theorem strw_fun (U0 U1 U2 : Obj) (s : List UInt8) (base a : Int) (o : AVal) (O : Obj) (at_ : Int) (k : Out → Ans) : iFun Tryd.prog (layS2.hd Tryd.prog) layS2.fhs 0 87 [.ptr (.hp 3) 0, .int .i64 at_] (HwP U0 U1 U2 s base a o O) k = (
  let n0 : Int := IntKind.i64.wrap (at_ + 1);
  let m1 : Nat := n0.toNat;
  let n2 : Int := (↑at_.toNat : Int);
  let n3 : Int := (strM at_.toNat (List.drop m1 s) (Bld.mk AVal.nilptr AVal.nilX [] 0) m1).e;
  bif
      tst
        ((WdOk (WdH.mk U0 U1 U2 s base a o O) ∧
            at_.toNat ≤ s.length ∧ m1 ≤ s.length ∧ Bld.can 7 9 (Bld.mk AVal.nilptr AVal.nilX [] 0) ∧ 0 ≤ m1) ∧
          SubTL [AVal.ptr (Oid.hp 3) 0, AVal.int IntKind.i64 at_, AVal.ptr (Oid.hp 7) 0, AVal.int IntKind.i64 n0]
              [AVal.ptr (Oid.hp 3) 0, AVal.int IntKind.i64 n2, AVal.ptr (Oid.hp 7) 0, AVal.int IntKind.i64 (↑m1 : Int)] ∧
            ([] : List (List AVal)) = [] ∧
              [U0, U1, U2, Obj.var [AVal.str s, AVal.int IntKind.i64 base, AVal.int IntKind.i64 a, o], Obj.note 83 4, O,
                  Obj.note 62 0, Obj.var [AVal.nilptr, AVal.nilX], Obj.note 98 2, Obj.arr 1 [] 0, Obj.note 5 0] =
                stP (WdH.mk U0 U1 U2 s base a o O) (Bld.mk AVal.nilptr AVal.nilX [] 0)) then
    bif n3 == 0 then
      k
        (Out.ret
          (AVal.tuple
            [AVal.str (strM at_.toNat (List.drop m1 s) (Bld.mk AVal.nilptr AVal.nilX [] 0) m1).text,
              AVal.int IntKind.i64 (↑(strM at_.toNat (List.drop m1 s) (Bld.mk AVal.nilptr AVal.nilX [] 0) m1).to : Int)])
          (stP (WdH.mk U0 U1 U2 s base a o O) (strM at_.toNat (List.drop m1 s) (Bld.mk AVal.nilptr AVal.nilX [] 0) m1).x))
    else
      bif (strM at_.toNat (List.drop m1 s) (Bld.mk AVal.nilptr AVal.nilX [] 0) m1).fin then
        k
          (Out.panic
            (AVal.iface 79 (AVal.agg [AVal.int IntKind.i64 (IntKind.i64.wrap (base + n2)), AVal.int IntKind.i64 33]))
            (stP (WdH.mk U0 U1 U2 s base a o O)
              (strM at_.toNat (List.drop m1 s) (Bld.mk AVal.nilptr AVal.nilX [] 0) m1).x))
      else
        k
          (Out.panic
            (flt (base + (↑(strM at_.toNat (List.drop m1 s) (Bld.mk AVal.nilptr AVal.nilX [] 0) m1).off : Int)) n3)
            (stP (WdH.mk U0 U1 U2 s base a o O)
              (strM at_.toNat (List.drop m1 s) (Bld.mk AVal.nilptr AVal.nilX [] 0) m1).x))
  else none) := by kernel_rfl
theorem layS2_ok : layS2.OK Tryd.prog := layS1_ok.loop1 (id := 3) (by kernel_rfl) (by kernel_rfl) (by kernel_rfl) strwSp_ok
/-- what the string's text tells, from the text alone -/
structure StQ where
  e : Int
  off : Nat
  text : List UInt8
  to : Nat
def strQ (at_ : Nat) : List UInt8 → List UInt8 → Nat → StQ
  | [], acc, i => ⟨33, at_, [], 0⟩
  | [c], acc, i => bif c == 34 then (bif decide (acc.length ≤ 4096) then ⟨0, 0, acc, i + 1⟩ else ⟨5, at_, [], 0⟩) else bif c == 92 || c == 10 then ⟨33, i, [], 0⟩ else ⟨33, at_, [], 0⟩
  | c :: d :: u, acc, i => bif c == 34 then (bif decide (acc.length ≤ 4096) then ⟨0, 0, acc, i + 1⟩ else ⟨5, at_, [], 0⟩) else bif c == 92 && decide (escI d ≥ 0) then strQ at_ u (acc ++ [escO d]) (i + 2) else bif c == 92 || c == 10 then ⟨33, i, [], 0⟩ else strQ at_ (d :: u) (acc ++ [c]) (i + 1)
theorem strM_Q (at_ : Nat) : ∀ (n : Nat) (t : List UInt8) (x : Bld) (i : Nat), t.length ≤ n → strQ at_ t x.t i = ⟨(strM at_ t x i).e, (strM at_ t x i).off, (strM at_ t x i).text, (strM at_ t x i).to⟩ ∧ ((strM at_ t x i).fin = true → (strM at_ t x i).e = 33 ∧ (strM at_ t x i).off = at_)
  | n, [], x, i, _ => ⟨rfl, fun _ => ⟨rfl, rfl⟩⟩
  | n, [c], x, i, _ => by
    rw [strQ, strM]
    cases c == 34 with
    | true =>
      cases decide (x.t.length ≤ 4096)
      · exact ⟨rfl, fun h => by cases h⟩
      · exact ⟨rfl, fun h => by cases h⟩
    | false =>
      cases c == 92 || c == 10
      · exact ⟨rfl, fun _ => ⟨rfl, rfl⟩⟩
      · exact ⟨rfl, fun h => by cases h⟩
  | 0, c :: d :: u, x, i, h => by simp at h
  | n + 1, c :: d :: u, x, i, h => by
    rw [strQ, strM]
    simp only [List.length_cons] at h
    cases c == 34 with
    | true =>
      cases decide (x.t.length ≤ 4096)
      · exact ⟨rfl, fun h => by cases h⟩
      · exact ⟨rfl, fun h => by cases h⟩
    | false =>
      cases c == 92 && decide (escI d ≥ 0) with
      | true =>
        have := strM_Q at_ n u (x.add 7 9 [escO d]) (i + 2) (by omega)
        rw [Bld.add_t] at this
        exact this
      | false =>
        cases c == 92 || c == 10 with
        | true => exact ⟨rfl, fun h => by cases h⟩
        | false =>
          have := strM_Q at_ n (d :: u) (x.add 7 9 [c]) (i + 1) (by simp only [List.length_cons]; omega)
          rw [Bld.add_t] at this
          exact this
/-- a call's panic forgets what no one points at -/
theorem CallOK.shrinkP {P : Program} {f : FuncId} {xs : List AVal} {H H' G : Heap} {v : AVal} (hc : CallOK P f xs H (.panic v (H' ++ G))) (hl : H.length ≤ H'.length) (hv : refsD 6 H'.length v = true) (hH : ∀ x ∈ H', refsO H'.length x = true) : CallOK P f xs H (.panic v H') := by
  intro w E cs sim hlen hr
  refine Calls.mono (hc w E cs sim hlen hr) (fun e w' hp => ?_)
  cases e with
  | returned c => exact hp.elim
  | panicked c =>
    obtain ⟨E', c0, e0, ev, sim', hrep⟩ := hp
    exact ⟨E', c0, e0, ev.shrink hl, sim'.shrink hH, hrep.shrink 6 _ _ hv⟩
  | outgrown => exact hp.elim
/-- no object points behind the words' heap -/
def WdR (x : WdH) : Prop := ∀ o ∈ x.heap, refsO 7 o = true
noncomputable def strwTold : FSp := mkF (fun xs H => (WdH.dec H, (aI xs 1).toNat)) (fun x => WdOk x.1 ∧ WdR x.1 ∧ x.2 < x.1.s.length) (fun x => [.ptr (.hp 3) 0, .int .i64 x.2]) (fun x => x.1.heap)
  (fun x k => cond ((strQ x.2 (x.1.s.drop (x.2 + 1)) [] (x.2 + 1)).e == 0) (k (.ret (.tuple [.str (strQ x.2 (x.1.s.drop (x.2 + 1)) [] (x.2 + 1)).text, .int .i64 (strQ x.2 (x.1.s.drop (x.2 + 1)) [] (x.2 + 1)).to]) x.1.heap))
    (k (.panic (flt (x.1.base + (strQ x.2 (x.1.s.drop (x.2 + 1)) [] (x.2 + 1)).off) (strQ x.2 (x.1.s.drop (x.2 + 1)) [] (x.2 + 1)).e) x.1.heap)))
theorem strwTold_ok : ∀ xs H k out, strwTold xs H k = some out → ∃ o, CallOK Tryd.prog 87 xs H o ∧ k o = some out := mkF_ok fun x h => by
  obtain ⟨⟨U0, U1, U2, s, base, a, o, O⟩, at_⟩ := x
  obtain ⟨hw, hR, ha⟩ := h
  have hw' := hw
  obtain ⟨h1, h2, h3⟩ := hw'
  simp only at h1 h2 h3 ha
  have e2 : IntKind.i64.wrap ((at_ : Int) + 1) = ((at_ + 1 : Nat) : Int) := by rw [wrap_of (by omega) (by omega)]; omega
  have key := fun k => strw_fun U0 U1 U2 s base a o O at_ k
  simp only [Int.toNat_natCast, e2] at key
  replace key := fun k => (key k).trans ((congrArg (fun c => cond c _ none) (tst_true ⟨⟨hw, show at_ ≤ s.length by omega, show at_ + 1 ≤ s.length by omega, Bld.new_can 7 9, Nat.zero_le _⟩, .refl _, by trivial, by trivial⟩)).trans rfl)
  obtain ⟨q1, q2⟩ := strM_Q at_ _ (s.drop (at_ + 1)) Bld.new (at_ + 1) (Nat.le_refl _)
  have q1' : strQ at_ (s.drop (at_ + 1)) [] (at_ + 1) = _ := q1
  show ∃ o, (∀ k : Out → Ans, cond ((strQ at_ (s.drop (at_ + 1)) [] (at_ + 1)).e == 0) _ _ = k o) ∧ _
  dsimp only
  rw [q1']
  simp only
  replace key : ∀ k, iFun Tryd.prog (layS2.hd Tryd.prog) layS2.fhs 0 87 [.ptr (.hp 3) 0, .int .i64 at_] (HwP U0 U1 U2 s base a o O) k = cond ((strM at_ (s.drop (at_ + 1)) Bld.new (at_ + 1)).e == 0) _ (cond (strM at_ (s.drop (at_ + 1)) Bld.new (at_ + 1)).fin _ _) := key
  cases hb : (strM at_ (s.drop (at_ + 1)) Bld.new (at_ + 1)).e == 0 with
  | true =>
    simp only [hb, cond_true] at key
    refine ⟨_, fun k => rfl, ?_⟩
    exact CallOK.shrink (H' := HwP U0 U1 U2 s base a o O) (G := [_, _, _, _]) (layS2_ok.call key) (Nat.le_refl _) (by rfl) hR
  | false =>
    simp only [hb, cond_false] at key
    refine ⟨_, fun k => rfl, ?_⟩
    cases hf : (strM at_ (s.drop (at_ + 1)) Bld.new (at_ + 1)).fin with
    | true =>
      simp only [hf, cond_true] at key
      obtain ⟨g1, g2⟩ := q2 hf
      rw [g1, g2]
      simp (disch := omega) only [wrap_of] at key
      exact CallOK.shrinkP (H' := HwP U0 U1 U2 s base a o O) (G := [_, _, _, _]) (layS2_ok.call key) (Nat.le_refl _) (by rfl) hR
    | false =>
      simp only [hf, cond_false] at key
      exact CallOK.shrinkP (H' := HwP U0 U1 U2 s base a o O) (G := [_, _, _, _]) (layS2_ok.call key) (Nat.le_refl _) (by rfl) hR
end Go.Mu
set_option linter.unusedVariables false
set_option linter.unusedSimpArgs false
set_option maxRecDepth 100000
namespace Go.Mu
open Go Go.Proofs
def dgN (t : List UInt8) : Nat := (t.takeWhile dig).length
theorem dgN_cons (c : UInt8) (t : List UInt8) : dgN (c :: t) = bif dig c then dgN t + 1 else 0 := by
  unfold dgN
  rw [List.takeWhile_cons]
  cases dig c <;> simp
theorem dgN_le (t : List UInt8) : dgN t ≤ t.length := by
  unfold dgN
  exact (List.takeWhile_prefix dig).length_le
noncomputable def digSp : LSp := mkL (fun vs _ H => (WdH.dec H, (aI vs 1).toNat, (aI vs 2).toNat)) (fun x => WdOk x.1 ∧ x.2.1 ≤ x.1.s.length ∧ x.2.2 ≤ x.1.s.length) (fun x => [.ptr (.hp 3) 0, .int .i64 x.2.1, .int .i64 x.2.2]) (fun _ => []) (fun x => x.1.heap) (fun x k => k (.exit 0) [.ptr (.hp 3) 0, .int .i64 x.2.1, .int .i64 ((x.2.2 + dgN (x.1.s.drop x.2.2) : Nat) : Int)] [] x.1.heap)
noncomputable def digFH : FH := .of [(2, loopSpec 67 [0,1,5] [] [0,1,5] [] digSp)]
noncomputable def layG1 : Lay := layX3.addF 142 numTold
theorem layG1_ok : layG1.OK Tryd.prog := layX3_ok.addF numTold_ok
theorem dig_step (U0 U1 U2 : Obj) (s : List UInt8) (base a : Int) (o : AVal) (O : Obj) (at_ i : Int) (D : List (FuncId × List AVal)) (k : Kont) : lturn Tryd.prog layG1 digFH 86 2 [0,1,5] [] [0,1,5] [] (stL 67 [0,1,5] [.ptr (.hp 3) 0, .int .i64 at_, .int .i64 i] [] [] (HwP U0 U1 U2 s base a o O) D) k = (
  let c0 : Bool := decide (i < (↑s.length : Int));
  let c1 : Bool := decide (0 ≤ i) && c0;
  let n2 : Int := (↑(s.getD i.toNat 0).toNat : Int);
  let c3 : Bool := bif c0 then decide (n2 ≥ 48) else false;
  bif c1 || !c0 then
    bif c1 || !c3 then
      bif bif c3 then decide (n2 ≤ 57) else false then
        k AExit.normal
          (stL 67 [0, 1, 5]
            [AVal.ptr (Oid.hp 3) 0, AVal.int IntKind.i64 at_, AVal.int IntKind.i64 (IntKind.i64.wrap (i + 1))] [] []
            (HwP U0 U1 U2 s base a o O) D)
      else
        k (AExit.exit 0)
          (stL 67 [0, 1, 5] [AVal.ptr (Oid.hp 3) 0, AVal.int IntKind.i64 at_, AVal.int IntKind.i64 i] [] []
            (HwP U0 U1 U2 s base a o O) D)
    else none
  else none) := by kernel_rfl
theorem dig_runs (x : WdH) (hx : WdOk x) (at_ : Nat) : ∀ (m i : Nat), x.s.length - i ≤ m → i ≤ x.s.length → LoopRuns (lturn Tryd.prog layG1 digFH 86 2 [0,1,5] [] [0,1,5] []) 67 [0,1,5] [] [0,1,5] [] [.ptr (.hp 3) 0, .int .i64 at_, .int .i64 i] [] x.heap (.exit 0) [.ptr (.hp 3) 0, .int .i64 at_, .int .i64 ((i + dgN (x.s.drop i) : Nat) : Int)] [] x.heap := by
  obtain ⟨U0, U1, U2, s, base, a, o, O⟩ := x
  obtain ⟨h1, h2, h3⟩ := hx
  simp only at h1 h2 h3 ⊢
  intro m
  induction m with
  | zero =>
    intro i hm hi
    have e : s.drop i = [] := List.drop_eq_nil_of_le (by omega)
    rw [e]
    refine .stop (by simp) (fun D k => ?_)
    rw [dig_step]
    simp (disch := omega) only [dF, cond_false, Bool.and_false, Bool.false_and, Bool.not_false, Bool.or_true, cond_true]
    rfl
  | succ m ih =>
    intro i hm hi
    by_cases hlt : i < s.length
    · have key := fun D k => dig_step U0 U1 U2 s base a o O at_ i D k
      have e2 : (i : Int) + 1 = ((i + 1 : Nat) : Int) := by omega
      have ec : ∀ c : UInt8, (decide (48 ≤ c.toNat) && decide (c.toNat ≤ 57)) = dig c := fun _ => rfl
      simp (disch := first | omega | decide) only [Int.toNat_natCast, dT, cond_true, Bool.true_and, Bool.true_or, Bool.and_true, Bool.and_self, gec, lec, bif_or, bif_and, ec, wrap_of, e2] at key
      have ih2 := ih (i + 1) (by omega) (by omega)
      rw [drop_cons_of s i 0 hlt, dgN_cons]
      cases hc : dig (s.getD i 0) with
      | true =>
        simp only [hc, cond_true] at key
        rw [show i + 1 + dgN (s.drop (i + 1)) = i + (dgN (s.drop (i + 1)) + 1) by omega] at ih2
        exact .step key ih2
      | false =>
        simp only [hc, cond_false] at key
        exact .stop (by simp) key
    · have e : s.drop i = [] := List.drop_eq_nil_of_le (by omega)
      rw [e]
      refine .stop (by simp) (fun D k => ?_)
      rw [dig_step]
      simp (disch := omega) only [dF, cond_false, Bool.and_false, Bool.false_and, Bool.not_false, Bool.or_true, cond_true]
      rfl
theorem digSp_ok : SpOK (lturn Tryd.prog layG1 digFH 86 2 [0,1,5] [] [0,1,5] []) 67 [0,1,5] [] [0,1,5] [] digSp := mkL_ok fun a h => ⟨_, _, _, _, fun k => rfl, dig_runs a.1 h.1 a.2.1 _ a.2.2 (Nat.le_refl _) h.2.2⟩
noncomputable def layG2 : Lay := layG1.addL 86 digFH
theorem layG2_ok : layG2.OK Tryd.prog := layG1_ok.loop1 (id := 2) (by kernel_rfl) (by kernel_rfl) (by kernel_rfl) digSp_ok
theorem digits_fun (U0 U1 U2 : Obj) (s : List UInt8) (base a : Int) (o : AVal) (O : Obj) (at_ : Int) (k : Out → Ans) (n0 : Int) (e_n0 : n0 = (IntKind.i64.wrap (at_ + 1)))
  (m1 : Nat) (e_m1 : m1 = (n0.toNat))
  (n2 : Int) (e_n2 : n2 = ((↑at_.toNat : Int)))
  (n3 : Int) (e_n3 : n3 = ((↑(m1 + dgN (List.drop m1 s)) : Int)))
  (l4 : List UInt8) (e_l4 : l4 = (List.drop n2.toNat (List.take n3.toNat s)))
  (n5 : Int) (e_n5 : n5 = ((numM l4).snd)) : iFun Tryd.prog (layG2.hd Tryd.prog) layG2.fhs 0 86 [.ptr (.hp 3) 0, .int .i64 at_] (HwP U0 U1 U2 s base a o O) k = (
  bif
      tst
        ((WdOk (WdH.mk U0 U1 U2 s base a o O) ∧ at_.toNat ≤ s.length ∧ m1 ≤ s.length) ∧
          SubTL [AVal.ptr (Oid.hp 3) 0, AVal.int IntKind.i64 at_, AVal.int IntKind.i64 n0]
              [AVal.ptr (Oid.hp 3) 0, AVal.int IntKind.i64 n2, AVal.int IntKind.i64 (↑m1 : Int)] ∧
            ([] : List (List AVal)) = [] ∧ HwP U0 U1 U2 s base a o O = (WdH.mk U0 U1 U2 s base a o O).heap) then
    bif decide (n2 ≤ n3) && decide (n3 ≤ (↑s.length : Int)) then
      bif decide (l4.length ≤ 1099511627776) then
        bif !n5 != 4 then
          k
            (Out.panic
              (AVal.iface 79 (AVal.agg [AVal.int IntKind.i64 (IntKind.i64.wrap (base + n2)), AVal.int IntKind.i64 4]))
              (WdH.mk U0 U1 U2 s base a o O).heap)
        else
          bif !n5 == 0 then
            k
              (Out.panic
                (AVal.iface 79 (AVal.agg [AVal.int IntKind.i64 (IntKind.i64.wrap (base + n2)), AVal.int IntKind.i64 33]))
                (WdH.mk U0 U1 U2 s base a o O).heap)
          else k (Out.ret (AVal.int IntKind.i64 n3) (WdH.mk U0 U1 U2 s base a o O).heap)
      else none
    else none
  else none) := by
  subst e_n0 e_m1 e_n2 e_n3 e_l4 e_n5
  kernel_rfl
def digM (t : List UInt8) : Int × Nat :=
  (bif (numM (t.take (1 + dgN (t.drop 1)))).2 == 4 then 4 else bif (numM (t.take (1 + dgN (t.drop 1)))).2 == 0 then 0 else 33, 1 + dgN (t.drop 1))
theorem digits_call (x : WdH) (at_ : Nat) (hx : WdOk x) (ha : at_ < x.s.length) (k : Out → Ans) : iFun Tryd.prog (layG2.hd Tryd.prog) layG2.fhs 0 86 [.ptr (.hp 3) 0, .int .i64 at_] x.heap k =
    cond ((digM (x.s.drop at_)).1 == 0) (k (.ret (.int .i64 ((at_ + (digM (x.s.drop at_)).2 : Nat) : Int)) x.heap)) (k (.panic (flt (x.base + at_) (digM (x.s.drop at_)).1) x.heap)) := by
  have hx' := hx
  obtain ⟨U0, U1, U2, s, base, a, o, O⟩ := x
  obtain ⟨h1, h2, h3⟩ := hx'
  simp only at h1 h2 h3 ha ⊢
  have hr := dgN_le (s.drop (at_ + 1))
  rw [List.length_drop] at hr
  have ed : (s.drop at_).drop 1 = s.drop (at_ + 1) := by rw [List.drop_drop]
  unfold digM
  rw [ed]
  have et : (s.drop at_).take (1 + dgN (s.drop (at_ + 1))) = (s.take (at_ + 1 + dgN (s.drop (at_ + 1)))).drop at_ := by
    rw [List.drop_take]
    congr 1
    omega
  rw [et]
  have e2 : IntKind.i64.wrap ((at_ : Int) + 1) = ((at_ + 1 : Nat) : Int) := by rw [wrap_of (by omega) (by omega)]; omega
  rw [digits_fun U0 U1 U2 s base a o O at_ k ((at_ + 1 : Nat) : Int) e2.symm (at_ + 1) (by omega) (at_ : Int) (by omega) _ rfl ((s.take (at_ + 1 + dgN (s.drop (at_ + 1)))).drop at_) (by rw [Int.toNat_natCast, Int.toNat_natCast]) _ rfl]
  simp only [Int.toNat_natCast]
  refine (congrArg (fun c => cond c _ none) (tst_true ⟨⟨hx, show at_ ≤ s.length by omega, show at_ + 1 ≤ s.length by omega⟩, .refl _, by trivial, by trivial⟩)).trans ?_
  have hl : ((s.take (at_ + 1 + dgN (s.drop (at_ + 1)))).drop at_).length ≤ s.length := by simp; omega
  generalize (s.take (at_ + 1 + dgN (s.drop (at_ + 1)))).drop at_ = u at *
  simp (disch := omega) only [cond_true, dT, Bool.and_self, wrap_of]
  generalize (numM u).2 = n
  rw [show at_ + 1 + dgN (s.drop (at_ + 1)) = at_ + (1 + dgN (s.drop (at_ + 1))) by omega]
  cases h4 : n == 4 with
  | true => simp only [bne, h4, cond_true]; rfl
  | false =>
    cases h0 : n == 0 with
    | true => simp only [bne, h4, cond_false, cond_true, Bool.not_true, Bool.not_false]; rfl
    | false => simp only [bne, h4, cond_false, cond_true, Bool.not_true, Bool.not_false]; rfl
/- one word -/
structure OneR where
  e : Int
  off : Nat
  kind : Int
  text : List UInt8
  len : Nat
def cutR (k : Int) (t : List UInt8) (r : Int × Nat) : OneR := ⟨r.1, 0, k, t.take r.2, r.2⟩
def oneM (t : List UInt8) : OneR :=
  bif ltr (t.getD 0 0) || t.getD 0 0 == 95 then cutR 1 t (idE t, runN t)
  else bif t.getD 0 0 == 46 then cutR 2 t (dotM t)
  else bif t.getD 0 0 == 36 then cutR 3 t (dollarM t)
  else bif t.getD 0 0 == 45 || dig (t.getD 0 0) then cutR 4 t (digM t)
  else bif t.getD 0 0 == 34 then ⟨(strQ 0 (t.drop 1) [] 1).e, (strQ 0 (t.drop 1) [] 1).off, 5, (strQ 0 (t.drop 1) [] 1).text, (strQ 0 (t.drop 1) [] 1).to⟩
  else bif [58, 61].isPrefixOf t then cutR 6 t (0, 2)
  else cutR 6 t (bif t.getD 0 0 == 124 then 0 else 33, 1)
noncomputable def layG3 : Lay := (((((layD4.addF 84 (cutTold' dotM)).addF 85 (cutTold' dollarM)).addF 86 (cutTold' digM)).addF 87 strwTold))
theorem layG3_ok : layG3.OK Tryd.prog := ((((layD4_ok.addF (cutTold'_ok layD6_ok dot_call)).addF (cutTold'_ok layD6_ok dollar_call)).addF (cutTold'_ok layG2_ok digits_call)).addF strwTold_ok)
theorem one_fun (U0 U1 U2 : Obj) (s : List UInt8) (base a : Int) (o : AVal) (O : Obj) (k : Out → Ans) (c0 : Bool) (e_c0 : c0 = (decide (0 ≤ a)))
  (n1 : Int) (e_n1 : n1 = ((↑s.length : Int)))
  (n2 : Int) (e_n2 : n2 = ((↑(s.getD a.toNat 0).toNat : Int)))
  (n3 : Int) (e_n3 : n3 = ((↑a.toNat : Int)))
  (l4 : List UInt8) (e_l4 : l4 = (List.drop a.toNat s))
  (n5 : Int) (e_n5 : n5 = (idE l4))
  (n6 : Int) (e_n6 : n6 = ((↑(a.toNat + runN l4) : Int)))
  (n7 : Int) (e_n7 : n7 = (base + n3))
  (c8 : Bool) (e_c8 : c8 = (tst
    ((WdOk (WdH.mk U0 U1 U2 s base a o O) ∧ a.toNat < s.length) ∧
      SubL [AVal.ptr (Oid.hp 3) 0, AVal.int IntKind.i64 a] [AVal.ptr (Oid.hp 3) 0, AVal.int IntKind.i64 n3] ∧
        HwP U0 U1 U2 s base a o O = (WdH.mk U0 U1 U2 s base a o O).heap)))
  (n9 : Int) (e_n9 : n9 = ((dotM l4).fst))
  (n10 : Int) (e_n10 : n10 = ((↑(a.toNat + (dotM l4).snd) : Int)))
  (n11 : Int) (e_n11 : n11 = ((dollarM l4).fst))
  (n12 : Int) (e_n12 : n12 = ((↑(a.toNat + (dollarM l4).snd) : Int)))
  (m13 : Nat) (e_m13 : m13 = (1 + dgN (List.drop 1 l4)))
  (n14 : Int) (e_n14 : n14 = ((numM (List.take m13 l4)).snd))
  (n15 : Int) (e_n15 : n15 = (bif n14 == 4 then 4 else bif n14 == 0 then 0 else 33))
  (n16 : Int) (e_n16 : n16 = ((↑(a.toNat + m13) : Int)))
  (m17 : Nat) (e_m17 : m17 = (a.toNat + 1))
  (n18 : Int) (e_n18 : n18 = ((strQ a.toNat (List.drop m17 s) [] m17).e))
  (n19 : Int) (e_n19 : n19 = (IntKind.i64.wrap (a + 2)))
  (n20 : Int) (e_n20 : n20 = (IntKind.i64.wrap (a + 1))) : iFun Tryd.prog (layG3.hd Tryd.prog) layG3.fhs 0 43 [.ptr (.hp 3) 0] (HwP U0 U1 U2 s base a o O) k = (
  bif c0 && decide (a < n1) then
    bif bif ltrI n2 then true else n2 == 95 then
      bif
          tst
            ((WdOk (WdH.mk U0 U1 U2 s base a o O) ∧ a.toNat ≤ s.length ∧ a.toNat ≤ s.length) ∧
              SubL [AVal.ptr (Oid.hp 3) 0, AVal.int IntKind.i64 a, AVal.int IntKind.i64 a]
                  [AVal.ptr (Oid.hp 3) 0, AVal.int IntKind.i64 n3, AVal.int IntKind.i64 n3] ∧
                HwP U0 U1 U2 s base a o O = (WdH.mk U0 U1 U2 s base a o O).heap) then
        bif n5 == 0 then
          bif c0 && decide (a ≤ n6) && decide (n6 ≤ n1) then
            k
              (Out.ret
                (AVal.agg
                  [AVal.int IntKind.i64 1, AVal.str (List.drop a.toNat (List.take n6.toNat s)),
                    AVal.int IntKind.i64 (IntKind.i64.wrap (base + a))])
                [U0, U1, U2, Obj.var [AVal.str s, AVal.int IntKind.i64 base, AVal.int IntKind.i64 n6, o], Obj.note 83 4,
                  O, Obj.note 62 0])
          else none
        else k (Out.panic (flt n7 n5) (WdH.mk U0 U1 U2 s base a o O).heap)
      else none
    else
      bif n2 == 46 then
        bif c8 then
          bif n9 == 0 then
            bif c0 && decide (a ≤ n10) && decide (n10 ≤ n1) then
              k
                (Out.ret
                  (AVal.agg
                    [AVal.int IntKind.i64 2, AVal.str (List.drop a.toNat (List.take n10.toNat s)),
                      AVal.int IntKind.i64 (IntKind.i64.wrap (base + a))])
                  [U0, U1, U2, Obj.var [AVal.str s, AVal.int IntKind.i64 base, AVal.int IntKind.i64 n10, o],
                    Obj.note 83 4, O, Obj.note 62 0])
            else none
          else k (Out.panic (flt n7 n9) (WdH.mk U0 U1 U2 s base a o O).heap)
        else none
      else
        bif n2 == 36 then
          bif c8 then
            bif n11 == 0 then
              bif c0 && decide (a ≤ n12) && decide (n12 ≤ n1) then
                k
                  (Out.ret
                    (AVal.agg
                      [AVal.int IntKind.i64 3, AVal.str (List.drop a.toNat (List.take n12.toNat s)),
                        AVal.int IntKind.i64 (IntKind.i64.wrap (base + a))])
                    [U0, U1, U2, Obj.var [AVal.str s, AVal.int IntKind.i64 base, AVal.int IntKind.i64 n12, o],
                      Obj.note 83 4, O, Obj.note 62 0])
              else none
            else k (Out.panic (flt n7 n11) (WdH.mk U0 U1 U2 s base a o O).heap)
          else none
        else
          bif bif n2 == 45 then true else bif decide (n2 ≥ 48) then decide (n2 ≤ 57) else false then
            bif c8 then
              bif n15 == 0 then
                bif c0 && decide (a ≤ n16) && decide (n16 ≤ n1) then
                  k
                    (Out.ret
                      (AVal.agg
                        [AVal.int IntKind.i64 4, AVal.str (List.drop a.toNat (List.take n16.toNat s)),
                          AVal.int IntKind.i64 (IntKind.i64.wrap (base + a))])
                      [U0, U1, U2, Obj.var [AVal.str s, AVal.int IntKind.i64 base, AVal.int IntKind.i64 n16, o],
                        Obj.note 83 4, O, Obj.note 62 0])
                else none
              else k (Out.panic (flt n7 n15) (WdH.mk U0 U1 U2 s base a o O).heap)
            else none
          else
            bif n2 == 34 then
              bif
                  tst
                    ((WdOk (WdH.mk U0 U1 U2 s base a o O) ∧ WdR (WdH.mk U0 U1 U2 s base a o O) ∧ a.toNat < s.length) ∧
                      SubL [AVal.ptr (Oid.hp 3) 0, AVal.int IntKind.i64 a]
                          [AVal.ptr (Oid.hp 3) 0, AVal.int IntKind.i64 n3] ∧
                        HwP U0 U1 U2 s base a o O = (WdH.mk U0 U1 U2 s base a o O).heap) then
                bif n18 == 0 then
                  k
                    (Out.ret
                      (AVal.agg
                        [AVal.int IntKind.i64 5, AVal.str (strQ a.toNat (List.drop m17 s) [] m17).text,
                          AVal.int IntKind.i64 (IntKind.i64.wrap (base + a))])
                      [U0, U1, U2,
                        Obj.var
                          [AVal.str s, AVal.int IntKind.i64 base,
                            AVal.int IntKind.i64 (↑(strQ a.toNat (List.drop m17 s) [] m17).to : Int), o],
                        Obj.note 83 4, O, Obj.note 62 0])
                else
                  k
                    (Out.panic (flt (base + (↑(strQ a.toNat (List.drop m17 s) [] m17).off : Int)) n18)
                      (WdH.mk U0 U1 U2 s base a o O).heap)
              else none
            else
              bif c0 && decide (a ≤ n1) && decide (n1 ≤ n1) then
                bif [58, 61].isPrefixOf (List.drop a.toNat (List.take n1.toNat s)) then
                  bif c0 && decide (a ≤ n19) && decide (n19 ≤ n1) then
                    k
                      (Out.ret
                        (AVal.agg
                          [AVal.int IntKind.i64 6, AVal.str (List.drop a.toNat (List.take n19.toNat s)),
                            AVal.int IntKind.i64 (IntKind.i64.wrap (base + a))])
                        [U0, U1, U2, Obj.var [AVal.str s, AVal.int IntKind.i64 base, AVal.int IntKind.i64 n19, o],
                          Obj.note 83 4, O, Obj.note 62 0])
                  else none
                else
                  bif !n2 == 124 then
                    k
                      (Out.panic
                        (AVal.iface 79
                          (AVal.agg [AVal.int IntKind.i64 (IntKind.i64.wrap (base + a)), AVal.int IntKind.i64 33]))
                        (HwP U0 U1 U2 s base a o O))
                  else
                    bif c0 && decide (a ≤ n20) && decide (n20 ≤ n1) then
                      k
                        (Out.ret
                          (AVal.agg
                            [AVal.int IntKind.i64 6, AVal.str (List.drop a.toNat (List.take n20.toNat s)),
                              AVal.int IntKind.i64 (IntKind.i64.wrap (base + a))])
                          [U0, U1, U2, Obj.var [AVal.str s, AVal.int IntKind.i64 base, AVal.int IntKind.i64 n20, o],
                            Obj.note 83 4, O, Obj.note 62 0])
                    else none
              else none
  else none) := by
  subst e_c0 e_n1 e_n2 e_n3 e_l4 e_n5 e_n6 e_n7 e_c8 e_n9 e_n10 e_n11 e_n12 e_m13 e_n14 e_n15 e_n16 e_m17 e_n18 e_n19 e_n20
  kernel_rfl
theorem strQ_shift (b : Nat) : ∀ (n : Nat) (t acc : List UInt8) (i : Nat), t.length ≤ n → (strQ b t acc (b + i)).e = (strQ 0 t acc i).e ∧ (strQ b t acc (b + i)).text = (strQ 0 t acc i).text ∧ ((strQ 0 t acc i).e ≠ 0 → (strQ b t acc (b + i)).off = b + (strQ 0 t acc i).off) ∧ ((strQ 0 t acc i).e = 0 → (strQ b t acc (b + i)).to = b + (strQ 0 t acc i).to ∧ (strQ 0 t acc i).to ≤ i + t.length)
  | n, [], acc, i, _ => ⟨rfl, rfl, fun _ => rfl, fun h => by cases h⟩
  | n, [c], acc, i, _ => by
    rw [strQ, strQ]
    cases c == 34 with
    | true =>
      cases decide (acc.length ≤ 4096) with
      | false => exact ⟨rfl, rfl, fun _ => rfl, fun h => by cases h⟩
      | true => exact ⟨rfl, rfl, fun h => absurd rfl h, fun _ => ⟨rfl, Nat.le_refl _⟩⟩
    | false =>
      cases c == 92 || c == 10
      · exact ⟨rfl, rfl, fun _ => rfl, fun h => by cases h⟩
      · exact ⟨rfl, rfl, fun _ => rfl, fun h => by cases h⟩
  | 0, c :: d :: u, acc, i, h => by simp at h
  | n + 1, c :: d :: u, acc, i, h => by
    rw [strQ, strQ]
    simp only [List.length_cons] at h ⊢
    cases c == 34 with
    | true =>
      cases decide (acc.length ≤ 4096) with
      | false => exact ⟨rfl, rfl, fun _ => rfl, fun h => by cases h⟩
      | true => exact ⟨rfl, rfl, fun h => absurd rfl h, fun _ => ⟨rfl, by simp only [cond_true]; omega⟩⟩
    | false =>
      cases c == 92 && decide (escI d ≥ 0) with
      | true =>
        have := strQ_shift b n u (acc ++ [escO d]) (i + 2) (by omega)
        simp only [cond_true, cond_false]
        rw [← Nat.add_assoc] at this
        exact ⟨this.1, this.2.1, this.2.2.1, fun h => ⟨(this.2.2.2 h).1, by have := (this.2.2.2 h).2; omega⟩⟩
      | false =>
        cases c == 92 || c == 10 with
        | true => exact ⟨rfl, rfl, fun _ => rfl, fun h => by cases h⟩
        | false =>
          have := strQ_shift b n (d :: u) (acc ++ [c]) (i + 1) (by simp only [List.length_cons]; omega)
          simp only [cond_true, cond_false]
          rw [← Nat.add_assoc] at this
          simp only [List.length_cons] at this
          exact ⟨this.1, this.2.1, this.2.2.1, fun h => ⟨(this.2.2.2 h).1, by have := (this.2.2.2 h).2; omega⟩⟩
theorem dotM_le {t : List UInt8} (h : 0 < t.length) : (dotM t).2 ≤ t.length := by
  unfold dotM
  cases hd1 t
  · exact h
  · exact dotsM_le _ _
theorem dollarM_le {t : List UInt8} (h : 0 < t.length) : (dollarM t).2 ≤ t.length := by
  unfold dollarM
  have hr := runN_le (t.drop 1)
  rw [List.length_drop] at hr
  cases hd1 t with
  | false =>
    have := dotsM_le t.length (t.drop 1)
    rw [List.length_drop] at this
    simp only [cond_false]; omega
  | true =>
    cases idE (t.drop 1) == 0 with
    | false => exact Nat.zero_le _
    | true =>
      have := dotsM_le t.length (t.drop (1 + runN (t.drop 1)))
      rw [List.length_drop] at this
      simp only [cond_true]; omega
theorem digM_le {t : List UInt8} (h : 0 < t.length) : (digM t).2 ≤ t.length := by
  unfold digM
  have hr := dgN_le (t.drop 1)
  rw [List.length_drop] at hr
  simp only; omega
theorem pre_two {s : List UInt8} (h : [58, 61].isPrefixOf s = true) : 2 ≤ s.length := pre_len h
theorem cut_eq (s : List UInt8) (p n : Nat) : (s.take (p + n)).drop p = (s.drop p).take n := by
  rw [List.drop_take]; congr 1; omega
theorem one_call (x : WdH) (p : Nat) (hp : x.a = p) (hx : WdOk x) (hR : WdR x) (ha : p < x.s.length) (k : Out → Ans) : iFun Tryd.prog (layG3.hd Tryd.prog) layG3.fhs 0 43 [.ptr (.hp 3) 0] x.heap k =
    cond ((oneM (x.s.drop p)).e == 0) (k (.ret (.agg [.int .i64 (oneM (x.s.drop p)).kind, .str (oneM (x.s.drop p)).text, .int .i64 (x.base + p)]) ({ x with a := ((p + (oneM (x.s.drop p)).len : Nat) : Int) } : WdH).heap))
      (k (.panic (flt (x.base + ((p + (oneM (x.s.drop p)).off : Nat) : Int)) (oneM (x.s.drop p)).e) x.heap)) := by
  have hx' := hx
  obtain ⟨U0, U1, U2, s, base, a, o, O⟩ := x
  obtain ⟨h1, h2, h3⟩ := hx'
  simp only at h1 h2 h3 ha hp ⊢
  subst hp
  obtain ⟨c, hc⟩ : ∃ c, c = s.getD p 0 := ⟨_, rfl⟩
  have htl : (s.drop p).length = s.length - p := by simp
  have htp : 0 < (s.drop p).length := by omega
  have hg : (s.drop p).getD 0 0 = c := by rw [List.getD_drop, hc]; rfl
  rw [one_fun U0 U1 U2 s base p o O k true (by rw [dT (by omega)]) _ rfl (c.toNat : Int) (by rw [Int.toNat_natCast, hc]) (p : Int) (by rw [Int.toNat_natCast]) (s.drop p) (by rw [Int.toNat_natCast]) _ rfl ((p + runN (s.drop p) : Nat) : Int) (by rw [Int.toNat_natCast])
    _ rfl true (tst_true ⟨⟨hx, by rw [Int.toNat_natCast]; exact ha⟩, .refl _, rfl⟩).symm _ rfl ((p + (dotM (s.drop p)).2 : Nat) : Int) (by rw [Int.toNat_natCast]) _ rfl ((p + (dollarM (s.drop p)).2 : Nat) : Int) (by rw [Int.toNat_natCast]) _ rfl _ rfl (digM (s.drop p)).1 rfl ((p + (digM (s.drop p)).2 : Nat) : Int) (by rw [Int.toNat_natCast]; rfl)
    (p + 1) (by rw [Int.toNat_natCast]) (strQ p (s.drop (p + 1)) [] (p + 1)).e (by rw [Int.toNat_natCast]) ((p + 2 : Nat) : Int) (by rw [wrap_of (by omega) (by omega)]; omega) ((p + 1 : Nat) : Int) (by rw [wrap_of (by omega) (by omega)]; omega)]
  simp (disch := first | omega | decide) only [Int.toNat_natCast, dT, Bool.true_and, cond_true, ltrI_eq, eqc, gec, lec, bif_or, bif_and, wrap_of, List.take_length]
  unfold oneM
  rw [hg]
  have cutG : ∀ (kk : Int) (r : Int × Nat) (X : Option Out), r.2 ≤ (s.drop p).length →
      (bif r.1 == 0 then (bif decide (((p + r.2 : Nat) : Int) ≤ (s.length : Int)) then k (.ret (.agg [.int .i64 kk, .str ((s.take (p + r.2)).drop p), .int .i64 (base + p)]) [U0, U1, U2, .var [.str s, .int .i64 base, .int .i64 ((p + r.2 : Nat) : Int), o], .note wsT 4, O, .note wdT 0]) else none)
        else k (.panic (flt (base + p) r.1) (WdH.mk U0 U1 U2 s base p o O).heap)) =
      cond ((cutR kk (s.drop p) r).e == 0) (k (.ret (.agg [.int .i64 (cutR kk (s.drop p) r).kind, .str (cutR kk (s.drop p) r).text, .int .i64 (base + p)]) (WdH.mk U0 U1 U2 s base ((p + (cutR kk (s.drop p) r).len : Nat) : Int) o O).heap)) (k (.panic (flt (base + ((p + (cutR kk (s.drop p) r).off : Nat) : Int)) (cutR kk (s.drop p) r).e) (WdH.mk U0 U1 U2 s base p o O).heap)) := by
    intro kk r X hr
    unfold cutR
    simp only
    rw [dT (show ((p + r.2 : Nat) : Int) ≤ (s.length : Int) by omega), cut_eq]
    rfl
  cases b1 : ltr c || c == 95 with
  | true =>
    simp only [cond_true]
    refine (congrArg (fun c => cond c _ none) (tst_true ⟨⟨hx, show p ≤ s.length by omega, by omega⟩, .refl _, by trivial⟩)).trans ?_
    exact cutG 1 (idE (s.drop p), runN (s.drop p)) none (runN_le _)
  | false =>
    simp only [cond_false]
    cases b2 : c == 46 with
    | true => simp only [cond_true]; exact cutG 2 (dotM (s.drop p)) none (dotM_le htp)
    | false =>
      simp only [cond_false]
      cases b3 : c == 36 with
      | true => simp only [cond_true]; exact cutG 3 (dollarM (s.drop p)) none (dollarM_le htp)
      | false =>
        simp only [cond_false]
        have ec : (c == 45 || (decide (48 ≤ c.toNat) && decide (c.toNat ≤ 57))) = (c == 45 || dig c) := rfl
        rw [ec]
        cases b4 : c == 45 || dig c with
        | true => simp only [cond_true]; exact cutG 4 (digM (s.drop p)) none (digM_le htp)
        | false =>
          simp only [cond_false]
          cases b5 : c == 34 with
          | true =>
            simp only [cond_true]
            refine (congrArg (fun c => cond c _ none) (tst_true ⟨⟨hx, hR, ha⟩, .refl _, by trivial⟩)).trans ?_
            simp only [cond_true]
            obtain ⟨q1, q2, q3, q4⟩ := strQ_shift p _ (s.drop (p + 1)) [] 1 (Nat.le_refl _)
            have ed : (s.drop p).drop 1 = s.drop (p + 1) := by rw [List.drop_drop]
            rw [ed, q1, q2]
            cases he : (strQ 0 (s.drop (p + 1)) [] 1).e == 0 with
            | true =>
              rw [(q4 (by simpa using he)).1]
              rfl
            | false =>
              rw [q3 (by simpa using he)]
              rfl
          | false =>
            simp only [cond_false]
            cases b6 : [58, 61].isPrefixOf (s.drop p) with
            | true =>
              simp only [cond_true]
              have h2' := pre_two b6
              exact cutG 6 (0, 2) none h2'
            | false =>
              simp only [cond_false]
              cases b7 : c == 124 with
              | true => simp only [cond_true, Bool.not_true, cond_false]; have := cutG 6 (0, 1) none htp; rw [dT (show ((p + (0, 1).2 : Nat) : Int) ≤ (s.length : Int) by simp only; omega)] at this; exact this
              | false => rfl
end Go.Mu
set_option linter.unusedVariables false
set_option linter.unusedSimpArgs false
set_option maxRecDepth 100000
namespace Go.Mu
open Go Go.Proofs
section
variable {P : Program}
theorem Evo.widen {X : Nat → Prop} {w w' : World} {E E' : Env} {H H' : Heap} (ev : Evo No w E H w' E' H') : Evo X w E H w' E' H' :=
  ⟨ev.size, fun b hb _ hl => ev.kept b hb (fun h => h) hl, ev.immKept, ev.immNew, ev.var, ev.arr, ev.phi, ev.len, ev.tape, ev.os, ev.output⟩
theorem CodeOK.relink {c : Code} {st st' : St} {e : AExit} {i n j : Nat} (h : CodeOK P c { st with H := relAt i n j st.H } e st') : CodeOK P c st e st' := by
  intro w a E β ci
  unfold relAt at h
  split at h
  · rename_i h1 h2
    split at h
    · rename_i x h3
      rw [Bool.cond_eq_ite] at h
      split at h
      · rename_i h4
        obtain ⟨ev, sim⟩ := Mu.relink ci.fs.sim h1 h3 h4 h2
        exact wp_mono (h w a _ β (ci.drop ev sim)) (fun x a' w' hx => hx.trans ev.widen (fun t b hb => .inl hb))
      · exact h w a E β ci
    · exact h w a E β ci
  · exact h w a E β ci
/-- a loop that is told behind a link -/
noncomputable def loopSpecR (r : Nat × Nat × Nat) (n : Nat) (l m lx mx : List Nat) (sp : LSp) (st : St) (k : Kont) : Ans := loopSpec n l m lx mx sp { st with H := relAt r.1 r.2.1 r.2.2 st.H } k
theorem LoopTold.link {d : Code} {r : Nat × Nat × Nat} {n : Nat} {l m lx mx : List Nat} {sp : LSp} (h : LoopTold P d (loopSpec n l m lx mx sp)) : LoopTold P d (loopSpecR r n l m lx mx sp) := by
  intro st k out hi
  obtain ⟨e, st', h1, h2⟩ := h _ k out hi
  exact ⟨e, st', h1.relink, h2⟩
theorem Lay.OK.loop1R {L : Lay} (h : L.OK P) {fh : FH} {f id n : Nat} {l m lx mx : List Nat} {sp : LSp} {r : Nat × Nat × Nat} (e1 : loopsIn (codeOf P f) = [loopAt id (codeOf P f)]) (e2 : loopsIn (loopAt id (codeOf P f)) = [])
    (e3 : fh.loops (firstRegion (loopAt id (codeOf P f))) = some (loopSpecR r n l m lx mx sp)) (hs : SpOK (lturn P L fh f id l m lx mx) n l m lx mx sp) : (L.addL f fh).OK P := by
  refine h.addL (LOk.of _ (fun d hd sp' hsp => ?_))
  rw [e1, List.mem_singleton] at hd
  subst hd
  rw [e3, Option.some.injEq] at hsp
  subst hsp
  exact (h.told (LOk.of _ (fun d hd => by rw [e2] at hd; cases hd)) hs).link
end
noncomputable def oneTold : FSp := mkF (fun xs H => WdH.dec H) (fun x => WdOk x ∧ WdR x ∧ 0 ≤ x.a ∧ x.a < x.s.length) (fun x => [.ptr (.hp 3) 0]) (fun x => x.heap)
  (fun x k => cond ((oneM (x.s.drop x.a.toNat)).e == 0) (k (.ret (.agg [.int .i64 (oneM (x.s.drop x.a.toNat)).kind, .str (oneM (x.s.drop x.a.toNat)).text, .int .i64 (x.base + (x.a.toNat : Int))]) ({ x with a := ((x.a.toNat + (oneM (x.s.drop x.a.toNat)).len : Nat) : Int) } : WdH).heap))
    (k (.panic (flt (x.base + ((x.a.toNat + (oneM (x.s.drop x.a.toNat)).off : Nat) : Int)) (oneM (x.s.drop x.a.toNat)).e) x.heap)))
theorem oneTold_ok : ∀ xs H k out, oneTold xs H k = some out → ∃ o, CallOK Tryd.prog 43 xs H o ∧ k o = some out := mkF_ok fun x h => by
  obtain ⟨h1, h2, h3, h4⟩ := h
  have key := one_call x x.a.toNat (by omega) h1 h2 (by omega)
  show ∃ o, (∀ k : Out → Ans, cond ((oneM (x.s.drop x.a.toNat)).e == 0) _ _ = k o) ∧ _
  cases hb : (oneM (x.s.drop x.a.toNat)).e == 0 with
  | true => simp only [hb, cond_true] at key; exact ⟨_, fun k => rfl, layG3_ok.call key⟩
  | false => simp only [hb, cond_false] at key; exact ⟨_, fun k => rfl, layG3_ok.call key⟩
noncomputable def layV1 : Lay := layX3.addF 43 oneTold
theorem layV1_ok : layV1.OK Tryd.prog := layX3_ok.addF oneTold_ok
abbrev wdV (s : List UInt8) (at_ : Int) : List AVal := [.str s, .int .i64 at_, .ptr (.hp 0) 0, .ptr (.hp 1) 0, .ptr (.hp 2) 0, .ptr (.hp 3) 0]
abbrev wdV' (at_ : Int) : List AVal := [.int .i64 at_, .ptr (.hp 0) 0, .ptr (.hp 1) 0, .ptr (.hp 2) 0, .ptr (.hp 3) 0]
theorem dotsM_pos {t : List UInt8} {m : Nat} (h : hd1 t = true) (h2 : (t.getD 0 0 == 46) = true) (he : (dotsM (m + 1) t).1 = 0) : 1 ≤ (dotsM (m + 1) t).2 := by
  have h1 : decide (1 < t.length) = true := by
    unfold hd1 at h
    rw [Bool.and_eq_true] at h
    exact h.1
  rw [dotsM, h1, h2] at he ⊢
  simp only [Bool.and_self, cond_true] at he ⊢
  cases hb : idE (t.drop 1) == 0 with
  | true => simp only [cond_true]; omega
  | false =>
    rw [hb] at he
    simp only [cond_false] at he
    rw [he] at hb
    cases hb
theorem strQ_pos : ∀ {n : Nat} {t acc : List UInt8} {i : Nat}, (strQ 0 t acc i).e = 0 → 1 ≤ (strQ 0 t acc i).to := by
  have : ∀ (n : Nat) (t acc : List UInt8) (i : Nat), t.length ≤ n → (strQ 0 t acc i).e = 0 → 1 ≤ (strQ 0 t acc i).to := by
    intro n
    induction n with
    | zero =>
      intro t acc i h he
      have : t = [] := List.eq_nil_of_length_eq_zero (by omega)
      subst this
      cases he
    | succ n ih =>
      intro t acc i h he
      match t, h, he with
      | [c], h, he =>
        rw [strQ] at he ⊢
        cases h1 : c == 34 with
        | true =>
          cases h2 : decide (acc.length ≤ 4096) with
          | true => simp only [cond_true]; omega
          | false => rw [h1, h2] at he; cases he
        | false =>
          rw [h1] at he
          cases h3 : c == 92 || c == 10
          · rw [h3] at he; cases he
          · rw [h3] at he; cases he
      | c :: d :: u, h, he =>
        rw [strQ] at he ⊢
        simp only [List.length_cons] at h
        cases h1 : c == 34 with
        | true =>
          cases h2 : decide (acc.length ≤ 4096) with
          | true => simp only [cond_true]; omega
          | false => rw [h1, h2] at he; cases he
        | false =>
          simp only [h1, cond_false] at he ⊢
          cases h3 : c == 92 && decide (escI d ≥ 0) with
          | true => simp only [h3, cond_true] at he ⊢; exact ih _ _ _ (by omega) he
          | false =>
            simp only [h3, cond_false] at he ⊢
            cases h4 : c == 92 || c == 10 with
            | true => rw [h4] at he; cases he
            | false => simp only [h4, cond_false] at he ⊢; exact ih _ _ _ (by simp only [List.length_cons]; omega) he
  intro n t acc i he
  exact this _ t acc i (Nat.le_refl _) he
theorem one_len {t : List UInt8} (ht : t ≠ []) (he : (oneM t).e = 0) : 1 ≤ (oneM t).len ∧ (oneM t).len ≤ t.length := by
  have hl : 0 < t.length := List.length_pos_iff.2 ht
  unfold oneM at he ⊢
  cases b1 : ltr (t.getD 0 0) || t.getD 0 0 == 95 with
  | true =>
    simp only [b1, cond_true, cutR] at he ⊢
    refine ⟨?_, runN_le t⟩
    unfold idE at he
    by_cases h0 : 0 < runN t
    · exact h0
    · rw [dF h0] at he
      simp at he
  | false =>
    simp only [b1, cond_false] at he ⊢
    cases b2 : t.getD 0 0 == 46 with
    | true =>
      simp only [b2, cond_true, cutR] at he ⊢
      refine ⟨?_, dotM_le hl⟩
      unfold dotM at he ⊢
      cases h1 : hd1 t with
      | false => simp
      | true =>
        simp only [h1, cond_true] at he ⊢
        obtain ⟨m, hm⟩ : ∃ m, t.length = m + 1 := ⟨t.length - 1, by omega⟩
        rw [hm] at he ⊢
        exact dotsM_pos h1 b2 he
    | false =>
      simp only [b2, cond_false] at he ⊢
      cases b3 : t.getD 0 0 == 36 with
      | true =>
        simp only [b3, cond_true, cutR] at he ⊢
        refine ⟨?_, dollarM_le hl⟩
        unfold dollarM at he ⊢
        cases h1 : hd1 t with
        | false => simp only [cond_false]; omega
        | true =>
          cases h2 : idE (t.drop 1) == 0 with
          | true => simp only [cond_true]; omega
          | false =>
            simp only [h1, h2, cond_true, cond_false] at he
            rw [he] at h2
            cases h2
      | false =>
        simp only [b3, cond_false] at he ⊢
        cases b4 : t.getD 0 0 == 45 || dig (t.getD 0 0) with
        | true =>
          simp only [b4, cond_true, cutR] at he ⊢
          refine ⟨?_, digM_le hl⟩
          unfold digM
          simp only; omega
        | false =>
          simp only [b4, cond_false] at he ⊢
          cases b5 : t.getD 0 0 == 34 with
          | true =>
            simp only [b5, cond_true] at he ⊢
            obtain ⟨q1, q2, q3, q4⟩ := strQ_shift 1 _ (t.drop 1) [] 0 (Nat.le_refl _)
            have ha := strQ_shift 0 _ (t.drop 1) [] 1 (Nat.le_refl _)
            have hb := (ha.2.2.2 he).2
            rw [List.length_drop] at hb
            refine ⟨strQ_pos (n := 0) he, by omega⟩
          | false =>
            simp only [b5, cond_false] at he ⊢
            cases b6 : [58, 61].isPrefixOf t with
            | true => simp only [cond_true, cutR]; exact ⟨by omega, pre_two b6⟩
            | false => simp only [cond_false, cutR]; exact ⟨Nat.le_refl _, hl⟩
structure WdD where
  kind : Int
  text : List UInt8
  at_ : Nat
def encWd (base : Int) (d : WdD) : List AVal := [.int .i64 d.kind, .str d.text, .int .i64 (base + (d.at_ : Int))]
/-- words, and where it fell -/
def wdsM : Nat → List UInt8 → Nat → List WdD × Option (Nat × Nat × Int)
  | 0, _, _ => ([], none)
  | m + 1, t, p => bif t == [] then ([], none) else bif blk (t.getD 0 0) then wdsM m (t.drop 1) (p + 1)
      else bif (oneM t).e == 0 then (⟨(oneM t).kind, (oneM t).text, p⟩ :: (wdsM m (t.drop (oneM t).len) (p + (oneM t).len)).1, (wdsM m (t.drop (oneM t).len) (p + (oneM t).len)).2)
      else ([], some (p, (oneM t).off, (oneM t).e))
abbrev wdH (U0 U1 U2 : Obj) (s : List UInt8) (base a : Int) (rows : List (List AVal)) (u : Nat) : Heap := HwP U0 U1 U2 s base a (.own 5 0 rows.length u false) (.arr 3 rows u)
structure WvA where
  w : WdH
  rows : List (List AVal)
  u : Nat
def WvOk (x : WvA) : Prop := WdOk x.w ∧ (refsO 7 x.w.U0 = true ∧ refsO 7 x.w.U1 = true ∧ refsO 7 x.w.U2 = true) ∧ 0 ≤ x.w.a ∧ x.w.a ≤ x.w.s.length ∧ (x.rows.length : Int) ≤ x.w.a ∧ ∃ ds : List WdD, x.rows = ds.map (encWd x.w.base)
abbrev wvR (x : WvA) : List WdD × Option (Nat × Nat × Int) := wdsM x.w.s.length (x.w.s.drop x.w.a.toNat) x.w.a.toNat
abbrev wvRows (x : WvA) : List (List AVal) := x.rows ++ (wvR x).1.map (encWd x.w.base)
noncomputable def wdsSp : LSp := mkL (fun vs _ H => WvA.mk (WdH.dec H) (rowsO (H.getD 5 (.var []))) (verO (H.getD 5 (.var [])))) WvOk (fun x => wdV x.w.s x.w.base) (fun _ => []) (fun x => wdH x.w.U0 x.w.U1 x.w.U2 x.w.s x.w.base x.w.a x.rows x.u)
  (fun x k => cond (wvR x).2.isSome
    (k (.panic (flt (x.w.base + ((((wvR x).2.getD (0, 0, 0)).1 + ((wvR x).2.getD (0, 0, 0)).2.1 : Nat) : Int)) ((wvR x).2.getD (0, 0, 0)).2.2)) (wdV' x.w.base) [] (wdH x.w.U0 x.w.U1 x.w.U2 x.w.s x.w.base (((wvR x).2.getD (0, 0, 0)).1 : Nat) (wvRows x) (x.u + (wvR x).1.length)))
    (k (.exit 0) (wdV' x.w.base) [] (wdH x.w.U0 x.w.U1 x.w.U2 x.w.s x.w.base x.w.s.length (wvRows x) (x.u + (wvR x).1.length))))
noncomputable def wdsFH : FH := { FH.of [(3, loopSpecR (3, 3, 5) 50 [0,1,4,5,6,7] [] [1,4,5,6,7] [] wdsSp)] with heap := [4, 5, 6, 12], typed := [(12, [(2, wdT)])] }
theorem wds_step (U0 U1 U2 : Obj) (s : List UInt8) (base a : Int) (m u : Nat) (rows : List (List AVal)) (D : List (FuncId × List AVal)) (k : Kont) : lturn Tryd.prog layV1 wdsFH 16 3 [0,1,4,5,6,7] [] [1,4,5,6,7] [] (stL 50 [0,1,4,5,6,7] (wdV s base) [] [] (HwP U0 U1 U2 s base a (.own 5 0 m u false) (.arr 3 rows u)) D) k = (
  let c0 : Bool := decide (a < (↑s.length : Int));
  let n1 : Int := (oneM (List.drop a.toNat s)).e;
  let m2 : Nat := m + 1;
  let m3 : Nat := u + 1;
  bif c0 then
    bif decide (0 ≤ a) && c0 then
      bif blkI (↑(s.getD a.toNat 0).toNat : Int) then
        k AExit.normal
          (stL 50 [0, 1, 4, 5, 6, 7]
            [AVal.str s, AVal.int IntKind.i64 base, AVal.ptr (Oid.hp 0) 0, AVal.ptr (Oid.hp 1) 0, AVal.ptr (Oid.hp 2) 0,
              AVal.ptr (Oid.hp 3) 0]
            [] []
            [U0, U1, U2,
              Obj.var
                [AVal.str s, AVal.int IntKind.i64 base, AVal.int IntKind.i64 (IntKind.i64.wrap (a + 1)),
                  AVal.own 5 0 m u false],
              Obj.note 83 4, Obj.arr 3 rows u, Obj.note 62 0]
            D)
      else
        bif
            tst
              ((WdOk (WdH.mk U0 U1 U2 s base a (AVal.own 5 0 m u false) (Obj.arr 3 rows u)) ∧
                  WdR (WdH.mk U0 U1 U2 s base a (AVal.own 5 0 m u false) (Obj.arr 3 rows u)) ∧
                    0 ≤ a ∧ a < (↑s.length : Int)) ∧
                SubL [AVal.ptr (Oid.hp 3) 0] [AVal.ptr (Oid.hp 3) 0] ∧
                  HwP U0 U1 U2 s base a (AVal.own 5 0 m u false) (Obj.arr 3 rows u) =
                    (WdH.mk U0 U1 U2 s base a (AVal.own 5 0 m u false) (Obj.arr 3 rows u)).heap) then
          bif n1 == 0 then
            bif u == u && m == rows.length && decide ((2 * m2 + 1000) * 32 ≤ 281474976710656) && true then
              bif sameV (AVal.own 5 0 m u false) (AVal.own 5 0 m u false) && true && true && true then
                k AExit.normal
                  (stL 50 [0, 1, 4, 5, 6, 7]
                    [AVal.str s, AVal.int IntKind.i64 base, AVal.ptr (Oid.hp 0) 0, AVal.ptr (Oid.hp 1) 0,
                      AVal.ptr (Oid.hp 2) 0, AVal.ptr (Oid.hp 3) 0]
                    [] []
                    [U0, U1, U2,
                      Obj.var
                        [AVal.str s, AVal.int IntKind.i64 base,
                          AVal.int IntKind.i64 (↑(a.toNat + (oneM (List.drop a.toNat s)).len) : Int),
                          AVal.own 5 0 m2 m3 false],
                      Obj.note 83 4,
                      Obj.arr 3
                        (rows.append
                          [[AVal.int IntKind.i64 (oneM (List.drop a.toNat s)).kind,
                              AVal.str (oneM (List.drop a.toNat s)).text,
                              AVal.int IntKind.i64 (base + (↑a.toNat : Int))]])
                        m3,
                      Obj.note 62 0]
                    D)
              else none
            else none
          else
            k (AExit.panic (flt (base + (↑(a.toNat + (oneM (List.drop a.toNat s)).off) : Int)) n1))
              (stL 50 [1, 4, 5, 6, 7]
                [AVal.int IntKind.i64 base, AVal.ptr (Oid.hp 0) 0, AVal.ptr (Oid.hp 1) 0, AVal.ptr (Oid.hp 2) 0,
                  AVal.ptr (Oid.hp 3) 0]
                [] [] (WdH.mk U0 U1 U2 s base a (AVal.own 5 0 m u false) (Obj.arr 3 rows u)).heap D)
        else none
    else none
  else
    k (AExit.exit 0)
      (stL 50 [1, 4, 5, 6, 7]
        [AVal.int IntKind.i64 base, AVal.ptr (Oid.hp 0) 0, AVal.ptr (Oid.hp 1) 0, AVal.ptr (Oid.hp 2) 0,
          AVal.ptr (Oid.hp 3) 0]
        [] [] (HwP U0 U1 U2 s base a (AVal.own 5 0 m u false) (Obj.arr 3 rows u)) D)) := by kernel_rfl
theorem wdR_of {U0 U1 U2 : Obj} {s : List UInt8} {base a : Int} {rows : List (List AVal)} {u : Nat} (h0 : refsO 7 U0 = true) (h1 : refsO 7 U1 = true) (h2 : refsO 7 U2 = true) {n : Nat} {ds : List WdD} (hr : rows = ds.map (encWd base)) : ∀ o ∈ HwP U0 U1 U2 s base a (.own 5 0 n u false) (.arr 3 rows u), refsO 7 o = true := by
  intro o ho
  simp only [HwP, List.mem_cons, List.not_mem_nil, or_false] at ho
  rcases ho with rfl | rfl | rfl | rfl | rfl | rfl | rfl
  · exact h0
  · exact h1
  · exact h2
  · rfl
  · rfl
  · subst hr
    simp only [refsO, List.all_map, List.all_eq_true]
    intro d _
    rfl
  · rfl
theorem wds_runs (U0 U1 U2 : Obj) (s : List UInt8) (base : Int) (hs : s.length ≤ 1073741824) (hb0 : 0 ≤ base) (hb1 : base ≤ 1099511627776) (g0 : refsO 7 U0 = true) (g1 : refsO 7 U1 = true) (g2 : refsO 7 U2 = true) : ∀ (m p u : Nat) (rows : List (List AVal)) (ds : List WdD), rows = ds.map (encWd base) → s.length - p ≤ m → p ≤ s.length → rows.length ≤ p →
    ((wdsM m (s.drop p) p).2 = none → LoopRuns (lturn Tryd.prog layV1 wdsFH 16 3 [0,1,4,5,6,7] [] [1,4,5,6,7] []) 50 [0,1,4,5,6,7] [] [1,4,5,6,7] [] (wdV s base) [] (wdH U0 U1 U2 s base p rows u) (.exit 0) (wdV' base) [] (wdH U0 U1 U2 s base s.length (rows ++ (wdsM m (s.drop p) p).1.map (encWd base)) (u + (wdsM m (s.drop p) p).1.length))) ∧
    (∀ q off e, (wdsM m (s.drop p) p).2 = some (q, off, e) → LoopRuns (lturn Tryd.prog layV1 wdsFH 16 3 [0,1,4,5,6,7] [] [1,4,5,6,7] []) 50 [0,1,4,5,6,7] [] [1,4,5,6,7] [] (wdV s base) [] (wdH U0 U1 U2 s base p rows u) (.panic (flt (base + ((q + off : Nat) : Int)) e)) (wdV' base) [] (wdH U0 U1 U2 s base q (rows ++ (wdsM m (s.drop p) p).1.map (encWd base)) (u + (wdsM m (s.drop p) p).1.length))) := by
  intro m
  induction m with
  | zero =>
    intro p u rows ds hr hm hp hl
    have hps : p = s.length := by omega
    refine ⟨fun _ => .stop (by simp) (fun D k => ?_), fun q off e h => by cases h⟩
    rw [wds_step]
    simp (disch := omega) only [dF, cond_false]
    subst hps
    simp only [wdsM, List.map_nil, List.append_nil, List.length_nil, Nat.add_zero]
  | succ m ih =>
    intro p u rows ds hr hm hp hl
    by_cases hlt : p < s.length
    case neg =>
      have hps : p = s.length := by omega
      have e : s.drop p = [] := List.drop_eq_nil_of_le (by omega)
      rw [e]
      refine ⟨fun _ => .stop (by simp) (fun D k => ?_), fun q off e h => by cases h⟩
      rw [wds_step]
      simp (disch := omega) only [dF, cond_false]
      subst hps
      show k _ _ = k _ _
      simp only [wdsM, List.map_nil, List.append_nil, List.length_nil, Nat.add_zero]
      simp
    have key := fun D k => wds_step U0 U1 U2 s base p rows.length u rows D k
    have hne : s.drop p ≠ [] := by
      intro e
      have := congrArg List.length e
      simp at this; omega
    have hne2 : (s.drop p == []) = false := by simpa using hne
    have hg : (s.drop p).getD 0 0 = s.getD p 0 := by rw [List.getD_drop]; rfl
    have e2 : IntKind.i64.wrap ((p : Int) + 1) = ((p + 1 : Nat) : Int) := by rw [wrap_of (by omega) (by omega)]; omega
    simp (disch := omega) only [dT, cond_true, Bool.and_self, Int.toNat_natCast, blkI_eq, e2, sameV_refl, beq_self_eq_true, Bool.and_true, Bool.true_and] at key
    rw [wdsM, hne2, hg]
    simp only [cond_false]
    cases hbk : blk (s.getD p 0) with
    | true =>
      simp only [hbk, cond_true] at key ⊢
      have ed : (s.drop p).drop 1 = s.drop (p + 1) := by rw [List.drop_drop]
      rw [ed]
      have := ih (p + 1) u rows ds hr (by omega) (by omega) (by omega)
      exact ⟨fun h => .step key (this.1 h), fun q off e h => .step key (this.2 q off e h)⟩
    | false =>
      simp only [hbk, cond_false] at key ⊢
      replace key := fun D k => (key D k).trans ((congrArg (fun c => cond c _ none) (tst_true ⟨⟨⟨hs, hb0, hb1⟩, wdR_of g0 g1 g2 hr, by omega, by omega⟩, .refl _, by trivial⟩)).trans rfl)
      cases he : (oneM (s.drop p)).e == 0 with
      | true =>
        obtain ⟨l1, l2⟩ := one_len hne (by simpa using he)
        rw [List.length_drop] at l2
        simp (disch := omega) only [he, cond_true, dT] at key ⊢
        have ed : (s.drop p).drop (oneM (s.drop p)).len = s.drop (p + (oneM (s.drop p)).len) := by rw [List.drop_drop]
        rw [ed]
        have := ih (p + (oneM (s.drop p)).len) (u + 1) (rows ++ [encWd base ⟨(oneM (s.drop p)).kind, (oneM (s.drop p)).text, p⟩]) (ds ++ [⟨(oneM (s.drop p)).kind, (oneM (s.drop p)).text, p⟩]) (by rw [hr, List.map_append]; rfl) (by omega) (by omega) (by rw [List.length_append]; show _ + 1 ≤ _; omega)
        rw [show u + 1 + (wdsM m (s.drop (p + (oneM (s.drop p)).len)) (p + (oneM (s.drop p)).len)).1.length = u + ((wdsM m (s.drop (p + (oneM (s.drop p)).len)) (p + (oneM (s.drop p)).len)).1.length + 1) by omega] at this
        have ew : ∀ (a : Int) (r : List AVal) (v : Nat), wdH U0 U1 U2 s base a (rows ++ [r]) v = HwP U0 U1 U2 s base a (.own 5 0 (rows.length + 1) v false) (.arr 3 (rows ++ [r]) v) := fun a r v => by
          show HwP U0 U1 U2 s base a (.own 5 0 (rows ++ [r]).length v false) (.arr 3 (rows ++ [r]) v) = _
          rw [List.length_append]; rfl
        rw [ew] at this
        simp only [List.append_assoc, List.singleton_append, List.map_cons, List.length_cons, List.length_append, List.length_nil, Nat.zero_add] at this ⊢
        exact ⟨fun h => .step key (this.1 h), fun q off e h => .step key (this.2 q off e h)⟩
      | false =>
        simp only [he, cond_false] at key ⊢
        refine ⟨(fun h => by cases h), fun q off e h => ?_⟩
        cases h
        simp only [List.map_nil, List.append_nil, List.length_nil, Nat.add_zero]
        exact .stop (by simp) key
theorem wdsSp_ok : SpOK (lturn Tryd.prog layV1 wdsFH 16 3 [0,1,4,5,6,7] [] [1,4,5,6,7] []) 50 [0,1,4,5,6,7] [] [1,4,5,6,7] [] wdsSp := mkL_ok fun x h => by
  obtain ⟨⟨U0, U1, U2, s, base, a, o, O⟩, rows, u⟩ := x
  obtain ⟨⟨h1, h2, h3⟩, ⟨g0, g1, g2⟩, h4, h5, h6, ds, h7⟩ := h
  simp only at h1 h2 h3 h4 h5 h6 h7 g0 g1 g2
  obtain ⟨p, rfl⟩ : ∃ p : Nat, a = p := ⟨a.toNat, by omega⟩
  have key := wds_runs U0 U1 U2 s base h1 h2 h3 g0 g1 g2 s.length p u rows ds h7 (by omega) (by omega) (by omega)
  show ∃ e vs bs H, (∀ k : AExit → List AVal → List (List AVal) → Heap → Ans, cond (wdsM s.length (s.drop p) p).2.isSome _ _ = k e vs bs H) ∧ LoopRuns _ _ _ _ _ _ (wdV s base) [] (wdH U0 U1 U2 s base p rows u) _ _ _ _
  cases hb : (wdsM s.length (s.drop p) p).2 with
  | none => 
    have := key.1 hb
    refine ⟨_, _, _, _, fun k => rfl, ?_⟩
    exact this
  | some v =>
    obtain ⟨q, off, e⟩ := v
    have := key.2 q off e hb
    refine ⟨_, _, _, _, fun k => ?_, this⟩
    show k (.panic (flt (base + ((((wdsM s.length (s.drop p) p).2.getD (0, 0, 0)).1 + ((wdsM s.length (s.drop p) p).2.getD (0, 0, 0)).2.1 : Nat) : Int)) ((wdsM s.length (s.drop p) p).2.getD (0, 0, 0)).2.2)) _ _ (wdH U0 U1 U2 s base (((wdsM s.length (s.drop p) p).2.getD (0, 0, 0)).1 : Nat) (wvRows _) _) = _
    rw [hb]
    rfl
noncomputable def layV2 : Lay := layV1.addL 16 wdsFH
theorem layV2_ok : layV2.OK Tryd.prog := layV1_ok.loop1R (r := (3, 3, 5)) (id := 3) (by kernel_rfl) (by kernel_rfl) (by kernel_rfl) wdsSp_ok
theorem words_fun (s : List UInt8) (base : Int) (k : Out → Ans) (m0 : Nat) (e_m0 : m0 = (((wvR
            (WvA.mk
              (WdH.mk (Obj.var [AVal.list true 0 fun (x : Nat) => []]) (Obj.var [AVal.int IntKind.i64 0])
                (Obj.var [AVal.int IntKind.i64 0]) s base 0 (AVal.own 5 0 0 1 false) (Obj.arr 3 [] 1))
              [] 1)).snd.getD
      (0, 0, 0)).fst))
  (m1 : Nat) (e_m1 : m1 = (1 +
    (wvR
          (WvA.mk
            (WdH.mk (Obj.var [AVal.list true 0 fun (x : Nat) => []]) (Obj.var [AVal.int IntKind.i64 0])
              (Obj.var [AVal.int IntKind.i64 0]) s base 0 (AVal.own 5 0 0 1 false) (Obj.arr 3 [] 1))
            [] 1)).fst.length)) : iFun Tryd.prog (layV2.hd Tryd.prog) layV2.fhs 0 16 [.str s, .int .i64 base] [] k = (
  bif
      tst
        (WvOk
            (WvA.mk
              (WdH.mk (Obj.var [AVal.list true 0 fun (x : Nat) => []]) (Obj.var [AVal.int IntKind.i64 0])
                (Obj.var [AVal.int IntKind.i64 0]) s base 0 (AVal.own 5 0 0 1 false) (Obj.arr 3 [] 1))
              [] 1) ∧
          SubTL
              [AVal.str s, AVal.int IntKind.i64 base, AVal.ptr (Oid.hp 0) 0, AVal.ptr (Oid.hp 1) 0, AVal.ptr (Oid.hp 2) 0,
                AVal.ptr (Oid.hp 3) 0]
              (wdV s base) ∧
            ([] : List (List AVal)) = [] ∧
              relAt 3 3 5
                  [Obj.var [AVal.list true 0 fun (x : Nat) => []], Obj.var [AVal.int IntKind.i64 0],
                    Obj.var [AVal.int IntKind.i64 0],
                    Obj.var
                      [AVal.str s, AVal.int IntKind.i64 base, AVal.int IntKind.i64 0,
                        AVal.list true 0 fun (x : Nat) => []],
                    Obj.note 83 4, Obj.arr 3 [] 0, Obj.note 62 0] =
                wdH (Obj.var [AVal.list true 0 fun (x : Nat) => []]) (Obj.var [AVal.int IntKind.i64 0])
                  (Obj.var [AVal.int IntKind.i64 0]) s base 0 [] 1) then
    bif
        (wvR
              (WvA.mk
                (WdH.mk (Obj.var [AVal.list true 0 fun (x : Nat) => []]) (Obj.var [AVal.int IntKind.i64 0])
                  (Obj.var [AVal.int IntKind.i64 0]) s base 0 (AVal.own 5 0 0 1 false) (Obj.arr 3 [] 1))
                [] 1)).snd.isSome then
      k
        (Out.ret
          (AVal.tuple
            [AVal.list true 0 fun (x : Nat) => [],
              AVal.int IntKind.i64
                (base +
                  (↑(m0 +
                        ((wvR
                                    (WvA.mk
                                      (WdH.mk (Obj.var [AVal.list true 0 fun (x : Nat) => []])
                                        (Obj.var [AVal.int IntKind.i64 0]) (Obj.var [AVal.int IntKind.i64 0]) s base 0
                                        (AVal.own 5 0 0 1 false) (Obj.arr 3 [] 1))
                                      [] 1)).snd.getD
                              (0, 0, 0)).snd.fst) :
                    Int)),
              AVal.int IntKind.i64
                ((wvR
                            (WvA.mk
                              (WdH.mk (Obj.var [AVal.list true 0 fun (x : Nat) => []]) (Obj.var [AVal.int IntKind.i64 0])
                                (Obj.var [AVal.int IntKind.i64 0]) s base 0 (AVal.own 5 0 0 1 false) (Obj.arr 3 [] 1))
                              [] 1)).snd.getD
                      (0, 0, 0)).snd.snd])
          [Obj.var [AVal.list true 0 fun (x : Nat) => []],
            Obj.var
              [AVal.int IntKind.i64
                  (base +
                    (↑(m0 +
                          ((wvR
                                      (WvA.mk
                                        (WdH.mk (Obj.var [AVal.list true 0 fun (x : Nat) => []])
                                          (Obj.var [AVal.int IntKind.i64 0]) (Obj.var [AVal.int IntKind.i64 0]) s base 0
                                          (AVal.own 5 0 0 1 false) (Obj.arr 3 [] 1))
                                        [] 1)).snd.getD
                                (0, 0, 0)).snd.fst) :
                      Int))],
            Obj.var
              [AVal.int IntKind.i64
                  ((wvR
                              (WvA.mk
                                (WdH.mk (Obj.var [AVal.list true 0 fun (x : Nat) => []])
                                  (Obj.var [AVal.int IntKind.i64 0]) (Obj.var [AVal.int IntKind.i64 0]) s base 0
                                  (AVal.own 5 0 0 1 false) (Obj.arr 3 [] 1))
                                [] 1)).snd.getD
                        (0, 0, 0)).snd.snd],
            Obj.var
              [AVal.str s, AVal.int IntKind.i64 base, AVal.int IntKind.i64 (↑m0 : Int),
                AVal.own 5 0
                  (wvRows
                      (WvA.mk
                        (WdH.mk (Obj.var [AVal.list true 0 fun (x : Nat) => []]) (Obj.var [AVal.int IntKind.i64 0])
                          (Obj.var [AVal.int IntKind.i64 0]) s base 0 (AVal.own 5 0 0 1 false) (Obj.arr 3 [] 1))
                        [] 1)).length
                  m1 false],
            Obj.note 83 4,
            Obj.arr 3
              (wvRows
                (WvA.mk
                  (WdH.mk (Obj.var [AVal.list true 0 fun (x : Nat) => []]) (Obj.var [AVal.int IntKind.i64 0])
                    (Obj.var [AVal.int IntKind.i64 0]) s base 0 (AVal.own 5 0 0 1 false) (Obj.arr 3 [] 1))
                  [] 1))
              m1,
            Obj.note 62 0])
    else
      k
        (Out.ret
          (AVal.tuple
            [AVal.own 5 0
                (wvRows
                    (WvA.mk
                      (WdH.mk (Obj.var [AVal.list true 0 fun (x : Nat) => []]) (Obj.var [AVal.int IntKind.i64 0])
                        (Obj.var [AVal.int IntKind.i64 0]) s base 0 (AVal.own 5 0 0 1 false) (Obj.arr 3 [] 1))
                      [] 1)).length
                m1 false,
              AVal.int IntKind.i64 base, AVal.int IntKind.i64 0])
          [Obj.var
              [AVal.own 5 0
                  (wvRows
                      (WvA.mk
                        (WdH.mk (Obj.var [AVal.list true 0 fun (x : Nat) => []]) (Obj.var [AVal.int IntKind.i64 0])
                          (Obj.var [AVal.int IntKind.i64 0]) s base 0 (AVal.own 5 0 0 1 false) (Obj.arr 3 [] 1))
                        [] 1)).length
                  m1 false],
            Obj.var [AVal.int IntKind.i64 base], Obj.var [AVal.int IntKind.i64 0],
            Obj.var
              [AVal.str s, AVal.int IntKind.i64 base, AVal.int IntKind.i64 (↑s.length : Int),
                AVal.own 5 0
                  (wvRows
                      (WvA.mk
                        (WdH.mk (Obj.var [AVal.list true 0 fun (x : Nat) => []]) (Obj.var [AVal.int IntKind.i64 0])
                          (Obj.var [AVal.int IntKind.i64 0]) s base 0 (AVal.own 5 0 0 1 false) (Obj.arr 3 [] 1))
                        [] 1)).length
                  m1 false],
            Obj.note 83 4,
            Obj.arr 3
              (wvRows
                (WvA.mk
                  (WdH.mk (Obj.var [AVal.list true 0 fun (x : Nat) => []]) (Obj.var [AVal.int IntKind.i64 0])
                    (Obj.var [AVal.int IntKind.i64 0]) s base 0 (AVal.own 5 0 0 1 false) (Obj.arr 3 [] 1))
                  [] 1))
              m1,
            Obj.note 62 0])
  else none) := by
  subst e_m0 e_m1
  kernel_rfl
/-- an array of records, handed on as plain data -/
theorem freeze_rows {α : Type} {H : Heap} {k sz u : Nat} {f : α → List AVal} {d : α} {l : List α} (hH : H[k]? = some (.arr sz (l.map f) u)) (hp : ∀ a, (f a).mapM (freezeV H 1) = some (f a)) : ∃ v, freezeV H 2 (.own k 0 (l.map f).length u false) = some v ∧ Sub v (encL false f d l) := by
  have hfz := freezeW (len := (l.map f).length) (off := 0) (clip := false) (d := 1) (rows' := l.map f) hH (by simp) (by
    rw [List.drop_zero, List.take_length]
    refine freeze_pures _ 0 _ (fun r hr => ?_)
    obtain ⟨a, _, rfl⟩ := List.mem_map.1 hr
    exact hp a)
  refine ⟨_, hfz, ?_⟩
  show Sub (.list false (l.map f).length _) (.list false l.length _)
  rw [List.length_map]
  refine Sub.list (fun h => h) (fun i hi => ?_)
  have : (l.map f).getD i [] = f (l.getD i d) := by
    simp only [List.getD_eq_getElem?_getD, List.getElem?_map, List.getElem?_eq_getElem hi, Option.map_some, Option.getD_some]
  rw [this]
  exact .refl _
def wordsOf (s : List UInt8) : List WdD := (wdsM s.length s 0).1
def wordsE (s : List UInt8) : Option (Nat × Nat × Int) := (wdsM s.length s 0).2
def wdAt (s : List UInt8) : Nat := ((wordsE s).getD (0, 0, 0)).1 + ((wordsE s).getD (0, 0, 0)).2.1
def wdErr (s : List UInt8) : Int := ((wordsE s).getD (0, 0, 0)).2.2
abbrev encWds (base : Int) (l : List WdD) : AVal := encL false (encWd base) ⟨0, [], 0⟩ l
abbrev wv0 (s : List UInt8) (base : Int) : WvA := ⟨⟨.var [nilList], .var [.int .i64 0], .var [.int .i64 0], s, base, 0, .own 5 0 0 1 false, .arr 3 [] 1⟩, [], 1⟩
theorem wv0_ok {s : List UInt8} {base : Int} (hs : s.length ≤ 1073741824) (h0 : 0 ≤ base) (h1 : base ≤ 1099511627776) : WvOk (wv0 s base) := ⟨⟨hs, h0, h1⟩, ⟨rfl, rfl, rfl⟩, Int.le_refl _, by show (0 : Int) ≤ (s.length : Int); omega, Int.le_refl _, [], rfl⟩
theorem words_good (s : List UInt8) (base : Int) (hs : s.length ≤ 1073741824) (h0 : 0 ≤ base) (h1 : base ≤ 1099511627776) (hb : (wordsE s).isSome = false) : CallOK Tryd.prog 16 [.str s, .int .i64 base] [] (.ret (.tuple [encWds base (wordsOf s), .int .i64 base, .int .i64 0]) []) := by
  have hr : wvRows (wv0 s base) = (wordsOf s).map (encWd base) := rfl
  have call : ∀ k, iFun Tryd.prog (layV2.hd Tryd.prog) layV2.fhs 0 16 [.str s, .int .i64 base] [] k = k (.ret (.tuple [.own 5 0 (wvRows (wv0 s base)).length (1 + (wordsOf s).length) false, .int .i64 base, .int .i64 0])
      [.var [.own 5 0 (wvRows (wv0 s base)).length (1 + (wordsOf s).length) false], .var [.int .i64 base], .var [.int .i64 0], .var [.str s, .int .i64 base, .int .i64 s.length, .own 5 0 (wvRows (wv0 s base)).length (1 + (wordsOf s).length) false], .note wsT 4, .arr 3 (wvRows (wv0 s base)) (1 + (wordsOf s).length), .note wdT 0]) := fun k => by
    rw [words_fun s base k _ rfl (1 + (wordsOf s).length) rfl]
    refine (congrArg (fun c => cond c _ none) (tst_true ⟨wv0_ok hs h0 h1, .refl _, rfl, rfl⟩)).trans ?_
    have hb' : (wvR (wv0 s base)).2.isSome = false := hb
    exact (congrArg (fun c => cond c _ _) hb').trans rfl
  rw [hr] at call
  obtain ⟨v, g1, g2⟩ := freeze_rows (f := encWd base) (d := ⟨0, [], 0⟩) (l := wordsOf s) (k := 5) (sz := 3) (u := 1 + (wordsOf s).length) (H := [.var [.own 5 0 ((wordsOf s).map (encWd base)).length (1 + (wordsOf s).length) false], .var [.int .i64 base], .var [.int .i64 0], .var [.str s, .int .i64 base, .int .i64 s.length, .own 5 0 ((wordsOf s).map (encWd base)).length (1 + (wordsOf s).length) false], .note wsT 4, .arr 3 ((wordsOf s).map (encWd base)) (1 + (wordsOf s).length), .note wdT 0]) rfl (fun a => rfl)
  exact ((layV2_ok.call call).freeze (d := 3) (freeze_t3 g1)).sub (.refl _) ⟨Sub.tuple (.cons g2 (.refl _)), rfl⟩
theorem words_bad (s : List UInt8) (base : Int) (hs : s.length ≤ 1073741824) (h0 : 0 ≤ base) (h1 : base ≤ 1099511627776) (hb : (wordsE s).isSome = true) : CallOK Tryd.prog 16 [.str s, .int .i64 base] [] (.ret (.tuple [nilList, .int .i64 (base + (wdAt s : Int)), .int .i64 (wdErr s)]) []) := by
  have hb' : (wvR (wv0 s base)).2.isSome = true := hb
  have key := fun k => (words_fun s base k _ rfl _ rfl).trans ((congrArg (fun c => cond c _ none) (tst_true ⟨wv0_ok hs h0 h1, .refl _, rfl, rfl⟩)).trans ((congrArg (fun c => cond c _ _) hb').trans (cond_true _ _)))
  exact layV2_ok.callF rfl key
def wordsTold : FSp := mkFS [.s, .i .i64] (fun xs => decide ((aS xs 0).length ≤ 1073741824 ∧ 0 ≤ aI xs 1 ∧ aI xs 1 ≤ 1099511627776))
  (fun xs k => cond (wordsE (aS xs 0)).isSome (k (.ret (.tuple [nilList, .int .i64 (aI xs 1 + (wdAt (aS xs 0) : Int)), .int .i64 (wdErr (aS xs 0))]) [])) (k (.ret (.tuple [encWds (aI xs 1) (wordsOf (aS xs 0)), .int .i64 (aI xs 1), .int .i64 0]) [])))
theorem wordsTold_ok : ∀ xs H k out, wordsTold xs H k = some out → ∃ o, CallOK Tryd.prog 16 xs H o ∧ k o = some out := mkFS_ok fun ys xs e h => by
  obtain ⟨s, n, rfl⟩ : ∃ s n, xs = [.str s, .int .i64 n] := ⟨_, _, e⟩
  replace h : s.length ≤ 1073741824 ∧ 0 ≤ n ∧ n ≤ 1099511627776 := of_decide_eq_true h
  show ∃ o, (∀ k : Out → Ans, cond (wordsE s).isSome _ _ = k o) ∧ _
  cases hb : (wordsE s).isSome with
  | true => exact ⟨_, fun k => rfl, words_bad s n h.1 h.2.1 h.2.2 hb⟩
  | false => exact ⟨_, fun k => rfl, words_good s n h.1 h.2.1 h.2.2 hb⟩
end Go.Mu
set_option linter.unusedVariables false
set_option linter.unusedSimpArgs false
set_option maxRecDepth 100000
namespace Go.Mu
open Go Go.Proofs
abbrev b0P (ad b : AVal) (O : Obj) : Heap := [.var [ad, b], .note bdT 2, O, .note bT 0]
structure b0H where
  x : Bld
abbrev b0H.heap (x : b0H) : Heap := b0P x.x.ad x.x.b (.arr 1 x.x.rows x.x.v)
def b0H.dec (H : Heap) : b0H := ⟨bld H 0 2⟩
theorem b0_ws0 (O : Obj) (k : Out → Ans) : iFun Tryd.prog (layW0.hd Tryd.prog) layW0.fhs 0 92 [.ptr (.hp 0) 0, .str []] (b0P .nilptr .nilX O) k = (
  k
    (Out.ret (AVal.tuple [AVal.int IntKind.i64 0, AVal.nilIface])
      [Obj.var [AVal.ptr (Oid.hp 0) 0, AVal.nilX], Obj.note 98 2, O, Obj.note 5 0])) := by kernel_rfl
theorem b0_ws1 (O : Obj) (k : Out → Ans) : iFun Tryd.prog (layW0.hd Tryd.prog) layW0.fhs 0 92 [.ptr (.hp 0) 0, .str []] (b0P (.ptr (.hp 0) 0) .nilX O) k = (
  k
    (Out.ret (AVal.tuple [AVal.int IntKind.i64 0, AVal.nilIface])
      [Obj.var [AVal.ptr (Oid.hp 0) 0, AVal.nilX], Obj.note 98 2, O, Obj.note 5 0])) := by kernel_rfl
theorem b0_ws2 (l : List UInt8) (n v : Nat) (rows : List (List AVal)) (k : Out → Ans) : iFun Tryd.prog (Lay.nil.hd Tryd.prog) Lay.nil.fhs 0 92 [.ptr (.hp 0) 0, .str l] (b0P .nilptr (.own 2 0 n v false) (.arr 1 rows v)) k = (
  let m0 : Nat := n + (List.map (fun (c : UInt8) => [AVal.int IntKind.u8 (↑c.toNat : Int)]) l).length;
  let m1 : Nat := v + 1;
  bif v == v && n == rows.length && decide ((2 * m0 + 1000) * 1 ≤ 281474976710656) && true then
    k
      (Out.ret (AVal.tuple [AVal.int IntKind.i64 (↑l.length : Int), AVal.nilIface])
        [Obj.var [AVal.ptr (Oid.hp 0) 0, AVal.own 2 0 m0 m1 false], Obj.note 98 2,
          Obj.arr 1 (rows.append (List.map (fun (c : UInt8) => [AVal.int IntKind.u8 (↑c.toNat : Int)]) l)) m1,
          Obj.note 5 0])
  else none) := by kernel_rfl
theorem b0_ws3 (l : List UInt8) (n v : Nat) (rows : List (List AVal)) (k : Out → Ans) : iFun Tryd.prog (Lay.nil.hd Tryd.prog) Lay.nil.fhs 0 92 [.ptr (.hp 0) 0, .str l] (b0P (.ptr (.hp 0) 0) (.own 2 0 n v false) (.arr 1 rows v)) k = (
  let m0 : Nat := n + (List.map (fun (c : UInt8) => [AVal.int IntKind.u8 (↑c.toNat : Int)]) l).length;
  let m1 : Nat := v + 1;
  bif v == v && n == rows.length && decide ((2 * m0 + 1000) * 1 ≤ 281474976710656) && true then
    k
      (Out.ret (AVal.tuple [AVal.int IntKind.i64 (↑l.length : Int), AVal.nilIface])
        [Obj.var [AVal.ptr (Oid.hp 0) 0, AVal.own 2 0 m0 m1 false], Obj.note 98 2,
          Obj.arr 1 (rows.append (List.map (fun (c : UInt8) => [AVal.int IntKind.u8 (↑c.toNat : Int)]) l)) m1,
          Obj.note 5 0])
  else none) := by kernel_rfl
theorem b0_wb2 (c : UInt8) (n v : Nat) (rows : List (List AVal)) (k : Out → Ans) : iFun Tryd.prog (Lay.nil.hd Tryd.prog) Lay.nil.fhs 0 56 [.ptr (.hp 0) 0, .int .u8 c.toNat] (b0P .nilptr (.own 2 0 n v false) (.arr 1 rows v)) k = (
  let m0 : Nat := n + 1;
  let m1 : Nat := v + 1;
  bif v == v && n == rows.length && decide ((2 * m0 + 1000) * 1 ≤ 281474976710656) && true then
    k
      (Out.ret AVal.nilIface
        [Obj.var [AVal.ptr (Oid.hp 0) 0, AVal.own 2 0 m0 m1 false], Obj.note 98 2,
          Obj.arr 1 (rows.append [[AVal.int IntKind.u8 (↑c.toNat : Int)]]) m1, Obj.note 5 0])
  else none) := by kernel_rfl
theorem b0_wb3 (c : UInt8) (n v : Nat) (rows : List (List AVal)) (k : Out → Ans) : iFun Tryd.prog (Lay.nil.hd Tryd.prog) Lay.nil.fhs 0 56 [.ptr (.hp 0) 0, .int .u8 c.toNat] (b0P (.ptr (.hp 0) 0) (.own 2 0 n v false) (.arr 1 rows v)) k = (
  let m0 : Nat := n + 1;
  let m1 : Nat := v + 1;
  bif v == v && n == rows.length && decide ((2 * m0 + 1000) * 1 ≤ 281474976710656) && true then
    k
      (Out.ret AVal.nilIface
        [Obj.var [AVal.ptr (Oid.hp 0) 0, AVal.own 2 0 m0 m1 false], Obj.note 98 2,
          Obj.arr 1 (rows.append [[AVal.int IntKind.u8 (↑c.toNat : Int)]]) m1, Obj.note 5 0])
  else none) := by kernel_rfl
theorem b0_len0 (ad : AVal) (O : Obj) (k : Out → Ans) : iFun Tryd.prog (Lay.nil.hd Tryd.prog) Lay.nil.fhs 0 113 [.ptr (.hp 0) 0] (b0P ad .nilX O) k = (
  k (Out.ret (AVal.int IntKind.i64 0) (b0P ad AVal.nilX O))) := by kernel_rfl
theorem b0_len1 (ad : AVal) (n v : Nat) (O : Obj) (k : Out → Ans) : iFun Tryd.prog (Lay.nil.hd Tryd.prog) Lay.nil.fhs 0 113 [.ptr (.hp 0) 0] (b0P ad (.own 2 0 n v false) O) k = (
  k (Out.ret (AVal.int IntKind.i64 (↑n : Int)) (b0P ad (AVal.own 2 0 n v false) O))) := by kernel_rfl
theorem b0_ws (x : b0H) (l : List UInt8) (hx : x.x.can 0 2) (h : x.x.t.length + l.length ≤ 1099511627776) : CallOK Tryd.prog 92 [.ptr (.hp 0) 0, .str l] x.heap (.ret (.tuple [.int .i64 l.length, .nilIface]) ({ x with x := x.x.add 0 2 l } : b0H).heap) := by
  obtain ⟨⟨ad, b, rows, v⟩⟩ := x
  obtain ⟨h1, h2, h3⟩ := hx
  unfold Bld.add Bld.t
  simp only [Bld.t] at h h1 h2 h3 ⊢
  generalize bytesOf rows = text at *
  subst h2 h3
  cases text with
  | nil =>
    cases l with
    | nil =>
      refine layW0_ok.call (fun k => ?_)
      rcases h1 with rfl | rfl
      · exact b0_ws0 (.arr 1 [] v) k
      · exact b0_ws1 (.arr 1 [] v) k
    | cons c t =>
      refine relAt_ok (i := 0) (c := 1) (j := 2) ?_
      simp only [List.length_nil] at h
      refine Lay.nil_ok.call (fun k => ?_)
      have e3 : wsV [] (c :: t) v = v + 1 + 1 := rfl
      rw [e3]
      generalize hl : c :: t = l at *
      have e4 : bfB 2 ([] ++ l) (v + 1 + 1) = .own 2 0 l.length (v + 1 + 1) false := by rw [← hl]; rfl
      rw [e4]
      rcases h1 with rfl | rfl
      · rw [show relAt 0 1 2 (b0P .nilptr (bfB 2 [] v) (.arr 1 (([] : List UInt8).map byteRow) v)) = b0P .nilptr (.own 2 0 0 (v + 1) false) (.arr 1 [] (v + 1)) from rfl, b0_ws2]
        simp (disch := omega) only [e_map, List.length_map, dT, beq_self_eq_true, Bool.and_true, cond_true, List.append_eq, List.nil_append, Nat.zero_add, List.length_nil, Nat.mul_one, List.map_nil]
      · rw [show relAt 0 1 2 (b0P (.ptr (.hp 0) 0) (bfB 2 [] v) (.arr 1 (([] : List UInt8).map byteRow) v)) = b0P (.ptr (.hp 0) 0) (.own 2 0 0 (v + 1) false) (.arr 1 [] (v + 1)) from rfl, b0_ws3]
        simp (disch := omega) only [e_map, List.length_map, dT, beq_self_eq_true, Bool.and_true, cond_true, List.append_eq, List.nil_append, Nat.zero_add, List.length_nil, Nat.mul_one, List.map_nil]
  | cons c t =>
    refine Lay.nil_ok.call (fun k => ?_)
    have e3 : wsV (c :: t) l v = v + 1 := rfl
    have e4 : bfB 2 ((c :: t) ++ l) (v + 1) = .own 2 0 ((c :: t) ++ l).length (v + 1) false := rfl
    have e5 : bfB 2 (c :: t) v = .own 2 0 (c :: t).length v false := rfl
    rw [e3, e4, e5]
    generalize c :: t = m at *
    rcases h1 with rfl | rfl
    · rw [b0_ws2]
      simp (disch := omega) only [e_map, List.length_map, dT, beq_self_eq_true, Bool.and_true, cond_true, List.append_eq, List.length_append, Nat.mul_one]
    · rw [b0_ws3]
      simp (disch := omega) only [e_map, List.length_map, dT, beq_self_eq_true, Bool.and_true, cond_true, List.append_eq, List.length_append, Nat.mul_one]
theorem b0_wb (x : b0H) (c : UInt8) (hx : x.x.can 0 2) (h : x.x.t.length ≤ 1073741824) : CallOK Tryd.prog 56 [.ptr (.hp 0) 0, .int .u8 c.toNat] x.heap (.ret .nilIface ({ x with x := x.x.add 0 2 [c] } : b0H).heap) := by
  obtain ⟨⟨ad, b, rows, v⟩⟩ := x
  obtain ⟨h1, h2, h3⟩ := hx
  unfold Bld.add Bld.t
  simp only [Bld.t] at h h1 h2 h3 ⊢
  generalize bytesOf rows = text at *
  subst h2 h3
  have e6 : [c].map byteRow = [[.int .u8 c.toNat]] := rfl
  rw [e6]
  cases text with
  | nil =>
    refine relAt_ok (i := 0) (c := 1) (j := 2) ?_
    refine Lay.nil_ok.call (fun k => ?_)
    have e3 : wsV [] [c] v = v + 1 + 1 := rfl
    have e4 : bfB 2 ([] ++ [c]) (v + 1 + 1) = .own 2 0 1 (v + 1 + 1) false := rfl
    rw [e3, e4]
    rcases h1 with rfl | rfl
    · rw [show relAt 0 1 2 (b0P .nilptr (bfB 2 [] v) (.arr 1 (([] : List UInt8).map byteRow) v)) = b0P .nilptr (.own 2 0 0 (v + 1) false) (.arr 1 [] (v + 1)) from rfl, b0_wb2]
      simp only [beq_self_eq_true]
      rfl
    · rw [show relAt 0 1 2 (b0P (.ptr (.hp 0) 0) (bfB 2 [] v) (.arr 1 (([] : List UInt8).map byteRow) v)) = b0P (.ptr (.hp 0) 0) (.own 2 0 0 (v + 1) false) (.arr 1 [] (v + 1)) from rfl, b0_wb3]
      simp only [beq_self_eq_true]
      rfl
  | cons d t =>
    refine Lay.nil_ok.call (fun k => ?_)
    have e3 : wsV (d :: t) [c] v = v + 1 := rfl
    have e4 : bfB 2 ((d :: t) ++ [c]) (v + 1) = .own 2 0 ((d :: t) ++ [c]).length (v + 1) false := rfl
    have e5 : bfB 2 (d :: t) v = .own 2 0 (d :: t).length v false := rfl
    rw [e3, e4, e5]
    generalize d :: t = m at *
    rcases h1 with rfl | rfl
    · rw [b0_wb2]
      simp (disch := omega) only [e_map, List.length_map, dT, beq_self_eq_true, Bool.and_true, cond_true, List.append_eq, List.length_append, Nat.mul_one, List.length_cons, List.length_nil]
    · rw [b0_wb3]
      simp (disch := omega) only [e_map, List.length_map, dT, beq_self_eq_true, Bool.and_true, cond_true, List.append_eq, List.length_append, Nat.mul_one, List.length_cons, List.length_nil]
theorem b0_len (x : b0H) (hx : x.x.can 0 2) : CallOK Tryd.prog 113 [.ptr (.hp 0) 0] x.heap (.ret (.int .i64 x.x.t.length) x.heap) := by
  obtain ⟨⟨ad, b, rows, v⟩⟩ := x
  obtain ⟨h1, h2, h3⟩ := hx
  simp only [Bld.t] at h1 h2 h3 ⊢
  generalize bytesOf rows = text at *
  subst h2 h3
  refine Lay.nil_ok.call (fun k => ?_)
  cases text with
  | nil => exact b0_len0 ad _ k
  | cons c t => exact b0_len1 ad (c :: t).length v _ k
theorem b0_str (x : b0H) (hx : x.x.can 0 2) (h : x.x.t.length ≤ 1099511627776) : CallOK Tryd.prog 58 [.ptr (.hp 0) 0] x.heap (.ret (.str x.x.t) ({ x with x := x.x.dead } : b0H).heap) := by
  obtain ⟨⟨ad, b, rows, v⟩⟩ := x
  obtain ⟨h1, h2, h3⟩ := hx
  unfold Bld.dead Bld.t
  simp only [Bld.t] at h h1 h2 h3 ⊢
  generalize bytesOf rows = text at *
  subst h2 h3
  cases text with
  | nil => exact str_ok0 (cs := [ad, .nilX]) rfl rfl
  | cons c t => exact str_ok (i := 0) (off := 0) (j := 2) (u := v) (cs := [ad, .own 2 0 (c :: t).length v false]) (l := c :: t) rfl rfl rfl rfl (by simp) h
noncomputable def b0_wsTold : FSp := mkF (fun xs H => (b0H.dec H, aS xs 1)) (fun x => x.1.x.can 0 2 ∧ x.1.x.t.length + x.2.length ≤ 1099511627776) (fun x => [.ptr (.hp 0) 0, .str x.2]) (fun x => x.1.heap) (fun x k => k (.ret (.tuple [.int .i64 x.2.length, .nilIface]) ({ x.1 with x := x.1.x.add 0 2 x.2 } : b0H).heap))
noncomputable def b0_wbTold : FSp := mkF (fun xs H => (b0H.dec H, UInt8.ofNat (aI xs 1).toNat)) (fun x => x.1.x.can 0 2 ∧ x.1.x.t.length ≤ 1073741824) (fun x => [.ptr (.hp 0) 0, .int .u8 x.2.toNat]) (fun x => x.1.heap) (fun x k => k (.ret .nilIface ({ x.1 with x := x.1.x.add 0 2 [x.2] } : b0H).heap))
noncomputable def b0_lenTold : FSp := mkF (fun xs H => b0H.dec H) (fun x => x.x.can 0 2) (fun x => [.ptr (.hp 0) 0]) (fun x => x.heap) (fun x k => k (.ret (.int .i64 x.x.t.length) x.heap))
noncomputable def b0_strTold : FSp := mkF (fun xs H => b0H.dec H) (fun x => x.x.can 0 2 ∧ x.x.t.length ≤ 1099511627776) (fun x => [.ptr (.hp 0) 0]) (fun x => x.heap) (fun x k => k (.ret (.str x.x.t) ({ x with x := x.x.dead } : b0H).heap))
noncomputable def b0_lay (L : Lay) : Lay := (((L.addF 92 b0_wsTold).addF 56 b0_wbTold).addF 113 b0_lenTold).addF 58 b0_strTold
theorem b0_ok {L : Lay} (h : L.OK Tryd.prog) : (b0_lay L).OK Tryd.prog :=
  (((h.addF (mkF_ok fun x h => ⟨_, fun k => rfl, b0_ws x.1 x.2 h.1 h.2⟩)).addF (mkF_ok fun x h => ⟨_, fun k => rfl, b0_wb x.1 x.2 h.1 h.2⟩)).addF (mkF_ok fun x h => ⟨_, fun k => rfl, b0_len x h⟩)).addF (mkF_ok fun x h => ⟨_, fun k => rfl, b0_str x h.1 h.2⟩)
end Go.Mu
set_option linter.unusedVariables false
set_option linter.unusedSimpArgs false
set_option maxRecDepth 100000
namespace Go.Mu
open Go Go.Proofs
/-- where an octet that is escaped stands among the four -/
def quI (d : UInt8) : Int :=
  let n11 : Int := if (34 == d) = true then 0 else -1
  let n12 : Int := if (92 == d) = true then 0 else if (n11 == -1) = true then -1 else n11 + 1
  let n13 : Int := if (9 == d) = true then 0 else if (n12 == -1) = true then -1 else n12 + 1
  if (10 == d) = true then 0 else if (n13 == -1) = true then -1 else n13 + 1
def quO (d : UInt8) : UInt8 := [110, 116, 92, 34].getD (quI d).toNat 0
theorem quI_lt (d : UInt8) : quI d < 4 := by
  have h : ∀ n : Fin 256, quI (UInt8.ofNat n) < 4 := by decide +kernel
  have := h ⟨d.toNat, d.toNat_lt⟩
  simpa using this
def quC (c : UInt8) : List UInt8 := bif decide (quI c ≥ 0) then [92, quO c] else [c]
/-- what the builder holds, step by step -/
def quX (x : Bld) (c : UInt8) : Bld := bif decide (quI c ≥ 0) then (x.add 0 2 [92]).add 0 2 [quO c] else x.add 0 2 [c]
noncomputable def layU1 : Lay := b0_lay layX3
theorem layU1_ok : layU1.OK Tryd.prog := b0_ok layX3_ok
noncomputable def quSp : LSp := mkL (fun vs _ H => (bld H 0 2, decL decB (vs.getD 1 .undef), (aI vs 3).toNat, fullOf (vs.getD 1 .undef))) (fun x => x.1.can 0 2 ∧ x.1.t.length ≤ 2 * x.2.2.1 + 1 ∧ x.2.2.1 ≤ x.2.1.length ∧ x.2.1.length ≤ 268435456) (fun x => [.ptr (.hp 0) 0, byL x.2.2.2 x.2.1, .int .i64 x.2.1.length, .int .i64 x.2.2.1]) (fun _ => []) (fun x => (b0H.mk x.1).heap)
  (fun x k => k (.exit 0) [.ptr (.hp 0) 0] [] (b0H.mk ((x.2.1.drop x.2.2.1).foldl quX x.1)).heap)
noncomputable def quFH : FH := { FH.of [(4, loopSpec 27 [3,9,10,11] [] [3] [] quSp)] with heap := [3], typed := [(3, [(0, bT)])], exact := true }
theorem qu_step (x : Bld) (f : Bool) (l : List UInt8) (n i : Int) (D : List (FuncId × List AVal)) (k : Kont) (n0 : Int) (e_n0 : n0 = ((↑(l.getD i.toNat 0).toNat : Int)))
  (m1 : Nat) (e_m1 : m1 = (n0.toNat))
  (v2 : UInt8) (e_v2 : v2 = (m1.toUInt8))
  (n3 : Int) (e_n3 : n3 = (if (34 == v2) = true then 0 else -1))
  (n4 : Int) (e_n4 : n4 = (if (92 == v2) = true then 0 else if (n3 == -1) = true then -1 else n3 + 1))
  (n5 : Int) (e_n5 : n5 = (if (9 == v2) = true then 0 else if (n4 == -1) = true then -1 else n4 + 1))
  (n6 : Int) (e_n6 : n6 = (if (10 == v2) = true then 0 else if (n5 == -1) = true then -1 else n5 + 1))
  (l7 : List UInt8) (e_l7 : l7 = ((Bld.mk x.ad x.b x.rows x.v).t))
  (m8 : Nat) (e_m8 : m8 = (wsV l7 [UInt8.ofNat (Int.toNat 92)] x.v))
  (l9 : List UInt8) (e_l9 : l9 = ((Bld.mk (AVal.ptr (Oid.hp 0) 0) (bfB 2 (l7.append [UInt8.ofNat (Int.toNat 92)]) m8)
      (x.rows.append [[AVal.int IntKind.u8 (↑(UInt8.ofNat (Int.toNat 92)).toNat : Int)]]) m8).t))
  (n10 : Int) (e_n10 : n10 = ((↑(([110, 116, 92, 34] : List UInt8).getD n6.toNat 0).toNat : Int)))
  (v11 : UInt8) (e_v11 : v11 = (UInt8.ofNat n10.toNat))
  (l12 : List UInt8) (e_l12 : l12 = ([v11]))
  (m13 : Nat) (e_m13 : m13 = (wsV l9 l12 m8))
  (v14 : UInt8) (e_v14 : v14 = (UInt8.ofNat m1))
  (l15 : List UInt8) (e_l15 : l15 = ([v14]))
  (m16 : Nat) (e_m16 : m16 = (wsV l7 l15 x.v)) : lturn Tryd.prog layU1 quFH 28 4 [3,9,10,11] [] [3] [] (stL 27 [3,9,10,11] [.ptr (.hp 0) 0, byL f l, .int .i64 n, .int .i64 i] [] [] (b0H.mk x).heap D) k = (
  bif decide (i < n) then
    bif decide (0 ≤ i) && decide (i < (↑l.length : Int)) then
      bif decide (n6 ≥ 0) then
        bif
            tst
              ((Bld.can 0 2 (Bld.mk x.ad x.b x.rows x.v) ∧ l7.length ≤ 1073741824) ∧
                SubL [AVal.ptr (Oid.hp 0) 0, AVal.int IntKind.u8 92]
                    [AVal.ptr (Oid.hp 0) 0, AVal.int IntKind.u8 (↑(UInt8.ofNat (Int.toNat 92)).toNat : Int)] ∧
                  (b0H.mk x).heap = (b0H.mk (Bld.mk x.ad x.b x.rows x.v)).heap) then
          bif decide (0 ≤ n6) && decide (n6 < 4) then
            bif
                tst
                  ((Bld.can 0 2
                        (Bld.mk (AVal.ptr (Oid.hp 0) 0) (bfB 2 (l7.append [UInt8.ofNat (Int.toNat 92)]) m8)
                          (x.rows.append [[AVal.int IntKind.u8 (↑(UInt8.ofNat (Int.toNat 92)).toNat : Int)]]) m8) ∧
                      l9.length ≤ 1073741824) ∧
                    SubL [AVal.ptr (Oid.hp 0) 0, AVal.int IntKind.u8 n10]
                        [AVal.ptr (Oid.hp 0) 0, AVal.int IntKind.u8 (↑v11.toNat : Int)] ∧
                      (b0H.mk
                            (Bld.mk (AVal.ptr (Oid.hp 0) 0) (bfB 2 (l7.append [UInt8.ofNat (Int.toNat 92)]) m8)
                              (x.rows.append [[AVal.int IntKind.u8 (↑(UInt8.ofNat (Int.toNat 92)).toNat : Int)]])
                              m8)).heap =
                        (b0H.mk
                            (Bld.mk (AVal.ptr (Oid.hp 0) 0) (bfB 2 (l7.append [UInt8.ofNat (Int.toNat 92)]) m8)
                              (x.rows.append [[AVal.int IntKind.u8 (↑(UInt8.ofNat (Int.toNat 92)).toNat : Int)]])
                              m8)).heap) then
              k AExit.normal
                (stL 27 [3, 9, 10, 11]
                  [AVal.ptr (Oid.hp 0) 0,
                    AVal.list f l.length fun (i : Nat) => [AVal.int IntKind.u8 (↑(l.getD i 0).toNat : Int)],
                    AVal.int IntKind.i64 n, AVal.int IntKind.i64 (IntKind.i64.wrap (i + 1))]
                  [] []
                  (b0H.mk
                      (Bld.mk (AVal.ptr (Oid.hp 0) 0) (bfB 2 (l9.append l12) m13)
                        ((x.rows.append [[AVal.int IntKind.u8 (↑(UInt8.ofNat (Int.toNat 92)).toNat : Int)]]).append
                          [[AVal.int IntKind.u8 (↑v11.toNat : Int)]])
                        m13)).heap
                  D)
            else none
          else none
        else none
      else
        bif
            tst
              ((Bld.can 0 2 (Bld.mk x.ad x.b x.rows x.v) ∧ l7.length ≤ 1073741824) ∧
                SubL [AVal.ptr (Oid.hp 0) 0, AVal.int IntKind.u8 n0]
                    [AVal.ptr (Oid.hp 0) 0, AVal.int IntKind.u8 (↑v14.toNat : Int)] ∧
                  (b0H.mk x).heap = (b0H.mk (Bld.mk x.ad x.b x.rows x.v)).heap) then
          k AExit.normal
            (stL 27 [3, 9, 10, 11]
              [AVal.ptr (Oid.hp 0) 0,
                AVal.list f l.length fun (i : Nat) => [AVal.int IntKind.u8 (↑(l.getD i 0).toNat : Int)],
                AVal.int IntKind.i64 n, AVal.int IntKind.i64 (IntKind.i64.wrap (i + 1))]
              [] []
              (b0H.mk
                  (Bld.mk (AVal.ptr (Oid.hp 0) 0) (bfB 2 (l7.append l15) m16)
                    (x.rows.append [[AVal.int IntKind.u8 (↑v14.toNat : Int)]]) m16)).heap
              D)
        else none
    else none
  else k (AExit.exit 0) (stL 27 [3] [AVal.ptr (Oid.hp 0) 0] [] [] (b0H.mk x).heap D)) := by
  subst e_n0 e_m1 e_v2 e_n3 e_n4 e_n5 e_n6 e_l7 e_m8 e_l9 e_n10 e_v11 e_l12 e_m13 e_v14 e_l15 e_m16
  kernel_rfl
theorem quX_can {x : Bld} (h : x.can 0 2) (c : UInt8) : (quX x c).can 0 2 := by
  unfold quX
  cases decide (quI c ≥ 0)
  · exact Bld.add_can h _
  · exact Bld.add_can (Bld.add_can h _) _
theorem quX_t (x : Bld) (c : UInt8) : (quX x c).t = x.t ++ quC c := by
  unfold quX quC
  cases decide (quI c ≥ 0)
  · exact Bld.add_t 0 2 x [c]
  · simp only [cond_true]
    rw [Bld.add_t, Bld.add_t, List.append_assoc]
    rfl
theorem quC_len (c : UInt8) : (quC c).length ≤ 2 := by
  unfold quC
  cases decide (quI c ≥ 0) <;> simp
theorem quF_t : ∀ (l : List UInt8) (x : Bld), (l.foldl quX x).t = x.t ++ l.flatMap quC
  | [], x => by simp
  | c :: l, x => by rw [List.foldl_cons, quF_t l, quX_t, List.flatMap_cons, List.append_assoc]
theorem quF_can : ∀ (l : List UInt8) (x : Bld), x.can 0 2 → (l.foldl quX x).can 0 2
  | [], x, h => h
  | c :: l, x, h => quF_can l _ (quX_can h c)
theorem qu_len : ∀ l : List UInt8, (l.flatMap quC).length ≤ 2 * l.length
  | [] => Nat.le_refl _
  | c :: l => by
    rw [List.flatMap_cons, List.length_append, List.length_cons]
    have := quC_len c
    have := qu_len l
    omega
theorem qu_runs (f : Bool) (l : List UInt8) (hl : l.length ≤ 268435456) : ∀ (m i : Nat) (x : Bld), l.length - i ≤ m → i ≤ l.length → x.can 0 2 → x.t.length ≤ 2 * i + 1 →
    LoopRuns (lturn Tryd.prog layU1 quFH 28 4 [3,9,10,11] [] [3] []) 27 [3,9,10,11] [] [3] [] [.ptr (.hp 0) 0, byL f l, .int .i64 l.length, .int .i64 i] [] (b0H.mk x).heap (.exit 0) [.ptr (.hp 0) 0] [] (b0H.mk ((l.drop i).foldl quX x)).heap := by
  intro m
  induction m with
  | zero =>
    intro i x hm hi hx ht
    have e : l.drop i = [] := List.drop_eq_nil_of_le (by omega)
    rw [e]
    refine .stop (by simp) (fun D k => ?_)
    refine (qu_step x f l l.length i D k _ rfl _ rfl _ rfl _ rfl _ rfl _ rfl _ rfl _ rfl _ rfl _ rfl _ rfl _ rfl _ rfl _ rfl _ rfl _ rfl _ rfl).trans ?_
    rw [dF (by omega)]
    rfl
  | succ m ih =>
    intro i x hm hi hx ht
    by_cases hlt : i < l.length
    case neg =>
      have e : l.drop i = [] := List.drop_eq_nil_of_le (by omega)
      rw [e]
      refine .stop (by simp) (fun D k => ?_)
      refine (qu_step x f l l.length i D k _ rfl _ rfl _ rfl _ rfl _ rfl _ rfl _ rfl _ rfl _ rfl _ rfl _ rfl _ rfl _ rfl _ rfl _ rfl _ rfl _ rfl).trans ?_
      rw [dF (by omega)]
      rfl
    obtain ⟨c, hc⟩ : ∃ c, c = l.getD i 0 := ⟨_, rfl⟩
    have ed := drop_cons_of l i 0 hlt
    rw [← hc] at ed
    rw [ed, List.foldl_cons]
    have e2 : IntKind.i64.wrap ((i : Int) + 1) = ((i + 1 : Nat) : Int) := by rw [wrap_of (by omega) (by omega)]; omega
    have key := fun D k => qu_step x f l l.length i D k (c.toNat : Int) (by rw [Int.toNat_natCast, hc]) c.toNat (by omega) c (by simp) _ rfl _ rfl _ rfl (quI c) rfl x.t rfl _ rfl (x.add 0 2 [92]).t rfl ((quO c).toNat : Int) rfl (quO c) (by rw [ofU8]) _ rfl _ rfl c (by simp) _ rfl _ rfl
    have h4 := quI_lt c
    simp (disch := omega) only [dT, cond_true, Bool.and_self, e2] at key
    have t92 : (x.add 0 2 [92]).t = x.t ++ [92] := Bld.add_t 0 2 x [92]
    have ih2 := ih (i + 1) (quX x c) (by omega) (by omega) (quX_can hx c) (by rw [quX_t, List.length_append]; have := quC_len c; omega)
    by_cases h0 : quI c ≥ 0
    · simp (disch := omega) only [dT, cond_true, Bool.and_self] at key
      have hk : x.t.length ≤ 1073741824 := by omega
      replace key := fun D k => (key D k).trans ((congrArg (fun c => cond c _ none) (tst_true ⟨⟨hx, hk⟩, .refl _, by trivial⟩)).trans rfl)
      replace key := fun D k => (key D k).trans ((congrArg (fun c => cond c _ none) (tst_true ⟨⟨Bld.add_can hx _, by rw [t92, List.length_append]; show _ + 1 ≤ _; omega⟩, .refl _, by trivial⟩)).trans rfl)
      have eX : quX x c = (x.add 0 2 [92]).add 0 2 [quO c] := by unfold quX; rw [dT h0]; rfl
      rw [eX] at ih2 ⊢
      exact .step key ih2
    · simp (disch := omega) only [dF, cond_false] at key
      replace key := fun D k => (key D k).trans ((congrArg (fun c => cond c _ none) (tst_true ⟨⟨hx, by omega⟩, .refl _, by trivial⟩)).trans rfl)
      have eX : quX x c = x.add 0 2 [c] := by unfold quX; rw [dF h0]; rfl
      rw [eX] at ih2 ⊢
      exact .step key ih2
theorem quSp_ok : SpOK (lturn Tryd.prog layU1 quFH 28 4 [3,9,10,11] [] [3] []) 27 [3,9,10,11] [] [3] [] quSp := mkL_ok fun a h => ⟨_, _, _, _, fun k => rfl, qu_runs a.2.2.2 a.2.1 h.2.2.2 _ a.2.2.1 a.1 (Nat.le_refl _) h.2.2.1 h.1 h.2.1⟩
noncomputable def layU2 : Lay := layU1.addL 28 quFH
theorem layU2_ok : layU2.OK Tryd.prog := layU1_ok.loop1 (id := 4) (by kernel_rfl) (by kernel_rfl) (by kernel_rfl) quSp_ok
theorem quote_fun (s : List UInt8) (k : Out → Ans) (l0 : List UInt8) (e_l0 : l0 = (decL (fun (r : List AVal) => byteOf r)
    (AVal.list false s.length fun (i : Nat) => [AVal.int IntKind.u8 (↑(s.getD i 0).toNat : Int)])))
  (m1 : Nat) (e_m1 : m1 = (l0.length))
  (m2 : Nat) (e_m2 : m2 = ((List.foldl quX
      (Bld.mk (AVal.ptr (Oid.hp 0) 0)
        (AVal.own 2 0 1 (wsV (Bld.mk AVal.nilptr AVal.nilX [] 0).t [UInt8.ofNat (Int.toNat 34)] 0) false)
        [[AVal.int IntKind.u8 (↑(UInt8.ofNat (Int.toNat 34)).toNat : Int)]]
        (wsV (Bld.mk AVal.nilptr AVal.nilX [] 0).t [UInt8.ofNat (Int.toNat 34)] 0))
      (List.drop (Int.toNat 0) l0)).v))
  (l3 : List UInt8) (e_l3 : l3 = ((Bld.mk
      (List.foldl quX
          (Bld.mk (AVal.ptr (Oid.hp 0) 0)
            (AVal.own 2 0 1 (wsV (Bld.mk AVal.nilptr AVal.nilX [] 0).t [UInt8.ofNat (Int.toNat 34)] 0) false)
            [[AVal.int IntKind.u8 (↑(UInt8.ofNat (Int.toNat 34)).toNat : Int)]]
            (wsV (Bld.mk AVal.nilptr AVal.nilX [] 0).t [UInt8.ofNat (Int.toNat 34)] 0))
          (List.drop (Int.toNat 0) l0)).ad
      (List.foldl quX
          (Bld.mk (AVal.ptr (Oid.hp 0) 0)
            (AVal.own 2 0 1 (wsV (Bld.mk AVal.nilptr AVal.nilX [] 0).t [UInt8.ofNat (Int.toNat 34)] 0) false)
            [[AVal.int IntKind.u8 (↑(UInt8.ofNat (Int.toNat 34)).toNat : Int)]]
            (wsV (Bld.mk AVal.nilptr AVal.nilX [] 0).t [UInt8.ofNat (Int.toNat 34)] 0))
          (List.drop (Int.toNat 0) l0)).b
      (List.foldl quX
          (Bld.mk (AVal.ptr (Oid.hp 0) 0)
            (AVal.own 2 0 1 (wsV (Bld.mk AVal.nilptr AVal.nilX [] 0).t [UInt8.ofNat (Int.toNat 34)] 0) false)
            [[AVal.int IntKind.u8 (↑(UInt8.ofNat (Int.toNat 34)).toNat : Int)]]
            (wsV (Bld.mk AVal.nilptr AVal.nilX [] 0).t [UInt8.ofNat (Int.toNat 34)] 0))
          (List.drop (Int.toNat 0) l0)).rows
      m2).t))
  (m4 : Nat) (e_m4 : m4 = (wsV l3 [UInt8.ofNat (Int.toNat 34)] m2))
  (l5 : List UInt8) (e_l5 : l5 = ((Bld.mk (AVal.ptr (Oid.hp 0) 0) (bfB 2 (l3.append [UInt8.ofNat (Int.toNat 34)]) m4)
      ((List.foldl quX
              (Bld.mk (AVal.ptr (Oid.hp 0) 0)
                (AVal.own 2 0 1 (wsV (Bld.mk AVal.nilptr AVal.nilX [] 0).t [UInt8.ofNat (Int.toNat 34)] 0) false)
                [[AVal.int IntKind.u8 (↑(UInt8.ofNat (Int.toNat 34)).toNat : Int)]]
                (wsV (Bld.mk AVal.nilptr AVal.nilX [] 0).t [UInt8.ofNat (Int.toNat 34)] 0))
              (List.drop (Int.toNat 0) l0)).rows.append
        [[AVal.int IntKind.u8 (↑(UInt8.ofNat (Int.toNat 34)).toNat : Int)]])
      m4).t)) : iFun Tryd.prog (layU2.hd Tryd.prog) layU2.fhs 0 28 [.str s] [] k = (
  bif
      tst
        ((Bld.can 0 2 (Bld.mk AVal.nilptr AVal.nilX [] 0) ∧ 0 ≤ 1073741824) ∧
          SubL [AVal.ptr (Oid.hp 0) 0, AVal.int IntKind.u8 34]
              [AVal.ptr (Oid.hp 0) 0, AVal.int IntKind.u8 (↑(UInt8.ofNat (Int.toNat 34)).toNat : Int)] ∧
            [Obj.var [AVal.nilptr, AVal.nilX], Obj.note 98 2, Obj.arr 1 [] 0, Obj.note 5 0] =
              (b0H.mk (Bld.mk AVal.nilptr AVal.nilX [] 0)).heap) then
    bif
        tst
          ((Bld.can 0 2
                (Bld.mk (AVal.ptr (Oid.hp 0) 0)
                  (AVal.own 2 0 1 (wsV (Bld.mk AVal.nilptr AVal.nilX [] 0).t [UInt8.ofNat (Int.toNat 34)] 0) false)
                  [[AVal.int IntKind.u8 (↑(UInt8.ofNat (Int.toNat 34)).toNat : Int)]]
                  (wsV (Bld.mk AVal.nilptr AVal.nilX [] 0).t [UInt8.ofNat (Int.toNat 34)] 0)) ∧
              1 ≤ 2 * Int.toNat 0 + 1 ∧ Int.toNat 0 ≤ m1 ∧ m1 ≤ 268435456) ∧
            SubTL
                [AVal.ptr (Oid.hp 0) 0,
                  AVal.list false s.length fun (i : Nat) => [AVal.int IntKind.u8 (↑(s.getD i 0).toNat : Int)],
                  AVal.int IntKind.i64 (↑s.length : Int), AVal.int IntKind.i64 0]
                [AVal.ptr (Oid.hp 0) 0, byL false l0, AVal.int IntKind.i64 (↑m1 : Int),
                  AVal.int IntKind.i64 (↑(Int.toNat 0) : Int)] ∧
              ([] : List (List AVal)) = [] ∧
                (b0H.mk
                      (Bld.mk (AVal.ptr (Oid.hp 0) 0)
                        (bfB 2 [UInt8.ofNat (Int.toNat 34)]
                          (wsV (Bld.mk AVal.nilptr AVal.nilX [] 0).t [UInt8.ofNat (Int.toNat 34)] 0))
                        [[AVal.int IntKind.u8 (↑(UInt8.ofNat (Int.toNat 34)).toNat : Int)]]
                        (wsV (Bld.mk AVal.nilptr AVal.nilX [] 0).t [UInt8.ofNat (Int.toNat 34)] 0))).heap =
                  (b0H.mk
                      (Bld.mk (AVal.ptr (Oid.hp 0) 0)
                        (AVal.own 2 0 1 (wsV (Bld.mk AVal.nilptr AVal.nilX [] 0).t [UInt8.ofNat (Int.toNat 34)] 0) false)
                        [[AVal.int IntKind.u8 (↑(UInt8.ofNat (Int.toNat 34)).toNat : Int)]]
                        (wsV (Bld.mk AVal.nilptr AVal.nilX [] 0).t [UInt8.ofNat (Int.toNat 34)] 0))).heap) then
      bif
          tst
            ((Bld.can 0 2
                  (Bld.mk
                    (List.foldl quX
                        (Bld.mk (AVal.ptr (Oid.hp 0) 0)
                          (AVal.own 2 0 1 (wsV (Bld.mk AVal.nilptr AVal.nilX [] 0).t [UInt8.ofNat (Int.toNat 34)] 0)
                            false)
                          [[AVal.int IntKind.u8 (↑(UInt8.ofNat (Int.toNat 34)).toNat : Int)]]
                          (wsV (Bld.mk AVal.nilptr AVal.nilX [] 0).t [UInt8.ofNat (Int.toNat 34)] 0))
                        (List.drop (Int.toNat 0) l0)).ad
                    (List.foldl quX
                        (Bld.mk (AVal.ptr (Oid.hp 0) 0)
                          (AVal.own 2 0 1 (wsV (Bld.mk AVal.nilptr AVal.nilX [] 0).t [UInt8.ofNat (Int.toNat 34)] 0)
                            false)
                          [[AVal.int IntKind.u8 (↑(UInt8.ofNat (Int.toNat 34)).toNat : Int)]]
                          (wsV (Bld.mk AVal.nilptr AVal.nilX [] 0).t [UInt8.ofNat (Int.toNat 34)] 0))
                        (List.drop (Int.toNat 0) l0)).b
                    (List.foldl quX
                        (Bld.mk (AVal.ptr (Oid.hp 0) 0)
                          (AVal.own 2 0 1 (wsV (Bld.mk AVal.nilptr AVal.nilX [] 0).t [UInt8.ofNat (Int.toNat 34)] 0)
                            false)
                          [[AVal.int IntKind.u8 (↑(UInt8.ofNat (Int.toNat 34)).toNat : Int)]]
                          (wsV (Bld.mk AVal.nilptr AVal.nilX [] 0).t [UInt8.ofNat (Int.toNat 34)] 0))
                        (List.drop (Int.toNat 0) l0)).rows
                    m2) ∧
                l3.length ≤ 1073741824) ∧
              SubL [AVal.ptr (Oid.hp 0) 0, AVal.int IntKind.u8 34]
                  [AVal.ptr (Oid.hp 0) 0, AVal.int IntKind.u8 (↑(UInt8.ofNat (Int.toNat 34)).toNat : Int)] ∧
                (b0H.mk
                      (List.foldl quX
                        (Bld.mk (AVal.ptr (Oid.hp 0) 0)
                          (AVal.own 2 0 1 (wsV (Bld.mk AVal.nilptr AVal.nilX [] 0).t [UInt8.ofNat (Int.toNat 34)] 0)
                            false)
                          [[AVal.int IntKind.u8 (↑(UInt8.ofNat (Int.toNat 34)).toNat : Int)]]
                          (wsV (Bld.mk AVal.nilptr AVal.nilX [] 0).t [UInt8.ofNat (Int.toNat 34)] 0))
                        (List.drop (Int.toNat 0) l0))).heap =
                  (b0H.mk
                      (Bld.mk
                        (List.foldl quX
                            (Bld.mk (AVal.ptr (Oid.hp 0) 0)
                              (AVal.own 2 0 1 (wsV (Bld.mk AVal.nilptr AVal.nilX [] 0).t [UInt8.ofNat (Int.toNat 34)] 0)
                                false)
                              [[AVal.int IntKind.u8 (↑(UInt8.ofNat (Int.toNat 34)).toNat : Int)]]
                              (wsV (Bld.mk AVal.nilptr AVal.nilX [] 0).t [UInt8.ofNat (Int.toNat 34)] 0))
                            (List.drop (Int.toNat 0) l0)).ad
                        (List.foldl quX
                            (Bld.mk (AVal.ptr (Oid.hp 0) 0)
                              (AVal.own 2 0 1 (wsV (Bld.mk AVal.nilptr AVal.nilX [] 0).t [UInt8.ofNat (Int.toNat 34)] 0)
                                false)
                              [[AVal.int IntKind.u8 (↑(UInt8.ofNat (Int.toNat 34)).toNat : Int)]]
                              (wsV (Bld.mk AVal.nilptr AVal.nilX [] 0).t [UInt8.ofNat (Int.toNat 34)] 0))
                            (List.drop (Int.toNat 0) l0)).b
                        (List.foldl quX
                            (Bld.mk (AVal.ptr (Oid.hp 0) 0)
                              (AVal.own 2 0 1 (wsV (Bld.mk AVal.nilptr AVal.nilX [] 0).t [UInt8.ofNat (Int.toNat 34)] 0)
                                false)
                              [[AVal.int IntKind.u8 (↑(UInt8.ofNat (Int.toNat 34)).toNat : Int)]]
                              (wsV (Bld.mk AVal.nilptr AVal.nilX [] 0).t [UInt8.ofNat (Int.toNat 34)] 0))
                            (List.drop (Int.toNat 0) l0)).rows
                        m2)).heap) then
        bif
            tst
              ((Bld.can 0 2
                    (Bld.mk (AVal.ptr (Oid.hp 0) 0) (bfB 2 (l3.append [UInt8.ofNat (Int.toNat 34)]) m4)
                      ((List.foldl quX
                              (Bld.mk (AVal.ptr (Oid.hp 0) 0)
                                (AVal.own 2 0 1 (wsV (Bld.mk AVal.nilptr AVal.nilX [] 0).t [UInt8.ofNat (Int.toNat 34)] 0)
                                  false)
                                [[AVal.int IntKind.u8 (↑(UInt8.ofNat (Int.toNat 34)).toNat : Int)]]
                                (wsV (Bld.mk AVal.nilptr AVal.nilX [] 0).t [UInt8.ofNat (Int.toNat 34)] 0))
                              (List.drop (Int.toNat 0) l0)).rows.append
                        [[AVal.int IntKind.u8 (↑(UInt8.ofNat (Int.toNat 34)).toNat : Int)]])
                      m4) ∧
                  l5.length ≤ 1099511627776) ∧
                SubL [AVal.ptr (Oid.hp 0) 0] [AVal.ptr (Oid.hp 0) 0] ∧
                  (b0H.mk
                        (Bld.mk (AVal.ptr (Oid.hp 0) 0) (bfB 2 (l3.append [UInt8.ofNat (Int.toNat 34)]) m4)
                          ((List.foldl quX
                                  (Bld.mk (AVal.ptr (Oid.hp 0) 0)
                                    (AVal.own 2 0 1
                                      (wsV (Bld.mk AVal.nilptr AVal.nilX [] 0).t [UInt8.ofNat (Int.toNat 34)] 0) false)
                                    [[AVal.int IntKind.u8 (↑(UInt8.ofNat (Int.toNat 34)).toNat : Int)]]
                                    (wsV (Bld.mk AVal.nilptr AVal.nilX [] 0).t [UInt8.ofNat (Int.toNat 34)] 0))
                                  (List.drop (Int.toNat 0) l0)).rows.append
                            [[AVal.int IntKind.u8 (↑(UInt8.ofNat (Int.toNat 34)).toNat : Int)]])
                          m4)).heap =
                    (b0H.mk
                        (Bld.mk (AVal.ptr (Oid.hp 0) 0) (bfB 2 (l3.append [UInt8.ofNat (Int.toNat 34)]) m4)
                          ((List.foldl quX
                                  (Bld.mk (AVal.ptr (Oid.hp 0) 0)
                                    (AVal.own 2 0 1
                                      (wsV (Bld.mk AVal.nilptr AVal.nilX [] 0).t [UInt8.ofNat (Int.toNat 34)] 0) false)
                                    [[AVal.int IntKind.u8 (↑(UInt8.ofNat (Int.toNat 34)).toNat : Int)]]
                                    (wsV (Bld.mk AVal.nilptr AVal.nilX [] 0).t [UInt8.ofNat (Int.toNat 34)] 0))
                                  (List.drop (Int.toNat 0) l0)).rows.append
                            [[AVal.int IntKind.u8 (↑(UInt8.ofNat (Int.toNat 34)).toNat : Int)]])
                          m4)).heap) then
          k
            (Out.ret (AVal.str l5)
              (b0H.mk
                  (Bld.mk (AVal.ptr (Oid.hp 0) 0) (bfB 2 (l3.append [UInt8.ofNat (Int.toNat 34)]) m4) []
                    (bif l5 == [] then m4 else m4 + 1))).heap)
        else none
      else none
    else none
  else none) := by
  subst e_l0 e_m1 e_m2 e_l3 e_m4 e_l5
  kernel_rfl
def quoteM (s : List UInt8) : List UInt8 := 34 :: (s.flatMap quC ++ [34])
abbrev qu0 : Bld := Bld.new.add 0 2 [34]
theorem quote_ok (s : List UInt8) (hs : s.length ≤ 268435456) : CallOK Tryd.prog 28 [.str s] [] (.ret (.str (quoteM s)) []) := by
  have hl := qu_len s
  have c0 : qu0.can 0 2 := Bld.add_can (Bld.new_can 0 2) _
  have c1 : (s.foldl quX qu0).can 0 2 := quF_can s _ c0
  have t1 : (s.foldl quX qu0).t = 34 :: s.flatMap quC := by rw [quF_t]; rfl
  have c2 : ((s.foldl quX qu0).add 0 2 [34]).can 0 2 := Bld.add_can c1 _
  have t2 : ((s.foldl quX qu0).add 0 2 [34]).t = quoteM s := by rw [Bld.add_t, t1]; rfl
  have n1 : (s.foldl quX qu0).t.length ≤ 1073741824 := by rw [t1, List.length_cons]; omega
  have n2 : ((s.foldl quX qu0).add 0 2 [34]).t.length ≤ 1099511627776 := by rw [t2]; unfold quoteM; rw [List.length_cons, List.length_append]; show _ + 1 + 1 ≤ _; omega
  rw [← t2]
  have key := fun k => (quote_fun s k s (decL_encL (d := 0) (full := false) decB_enc s).symm _ rfl _ rfl (s.foldl quX qu0).t rfl _ rfl ((s.foldl quX qu0).add 0 2 [34]).t rfl).trans
    ((congrArg (fun c => cond c _ none) (tst_true ⟨⟨Bld.new_can 0 2, by decide⟩, .refl _, rfl⟩)).trans ((cond_true _ _).trans
    ((congrArg (fun c => cond c _ none) (tst_true ⟨⟨c0, by decide, Nat.zero_le _, hs⟩, .refl _, rfl, rfl⟩)).trans ((cond_true _ _).trans
    ((congrArg (fun c => cond c _ none) (tst_true ⟨⟨c1, n1⟩, .refl _, rfl⟩)).trans ((cond_true _ _).trans
    ((congrArg (fun c => cond c _ none) (tst_true ⟨⟨c2, n2⟩, .refl _, rfl⟩)).trans (cond_true _ _))))))))
  exact layU2_ok.callF rfl key
def quoteTold : FSp := mkFS [.s] (fun xs => decide ((aS xs 0).length ≤ 268435456)) (fun xs k => k (.ret (.str (quoteM (aS xs 0))) []))
theorem quoteTold_ok : ∀ xs H k out, quoteTold xs H k = some out → ∃ o, CallOK Tryd.prog 28 xs H o ∧ k o = some out := mkFS_ok fun ys xs e h => by
  obtain ⟨s, rfl⟩ : ∃ s, xs = [.str s] := ⟨_, e⟩
  exact ⟨_, fun k => rfl, quote_ok s (of_decide_eq_true h)⟩
/- a quoted text is one word -/
theorem quC_str (at_ : Nat) : ∀ (s rest acc : List UInt8) (i : Nat), strQ at_ (s.flatMap quC ++ 34 :: rest) acc i = bif decide (acc.length + s.length ≤ 4096) then ⟨0, 0, acc ++ s, i + (s.flatMap quC).length + 1⟩ else ⟨5, at_, [], 0⟩
  | [], rest, acc, i => by
    have : strQ at_ (34 :: rest) acc i = bif decide (acc.length ≤ 4096) then ⟨0, 0, acc, i + 1⟩ else ⟨5, at_, [], 0⟩ := by
      cases rest with
      | nil => rw [strQ]; rfl
      | cons d u => rw [strQ]; rfl
    simpa using this
  | c :: s, rest, acc, i => by
    have h : ∀ n : Fin 256, (decide (quI (UInt8.ofNat n) ≥ 0) = true → decide (escI (quO (UInt8.ofNat n)) ≥ 0) = true ∧ escO (quO (UInt8.ofNat n)) = UInt8.ofNat n) ∧ (decide (quI (UInt8.ofNat n) ≥ 0) = false → UInt8.ofNat n ≠ 34 ∧ UInt8.ofNat n ≠ 92 ∧ UInt8.ofNat n ≠ 10) := by decide +kernel
    have hc := h ⟨c.toNat, c.toNat_lt⟩
    simp only [UInt8.ofNat_toNat] at hc
    have ih := fun acc i => quC_str at_ s rest acc i
    rw [List.flatMap_cons, List.append_assoc]
    unfold quC
    cases hq : decide (quI c ≥ 0) with
    | true =>
      obtain ⟨e1, e2⟩ := hc.1 hq
      simp only [cond_true]
      show strQ at_ (92 :: quO c :: (s.flatMap quC ++ 34 :: rest)) acc i = _
      rw [strQ, e1, e2]
      have e9 : ((92 : UInt8) == 34) = false := rfl
      have e8 : ((92 : UInt8) == 92) = true := rfl
      rw [e9, e8]
      simp only [cond_false, Bool.and_self, cond_true]
      rw [ih, List.length_append]
      have e7 : acc.length + [c].length + s.length = acc.length + (c :: s).length := by simp; omega
      have e6 : i + 2 + (s.flatMap quC).length + 1 = i + ([92, quO c] ++ s.flatMap quC).length + 1 := by simp; omega
      rw [e7, e6, List.append_assoc]
      rfl
    | false =>
      obtain ⟨n1, n2, n3⟩ := hc.2 hq
      simp only [cond_false]
      have e9 : (c == 34) = false := by simpa using n1
      have e8 : (c == 92) = false := by simpa using n2
      have e5 : (c == 10) = false := by simpa using n3
      show strQ at_ (c :: (s.flatMap quC ++ 34 :: rest)) acc i = _
      have hne : s.flatMap quC ++ 34 :: rest ≠ [] := by simp
      obtain ⟨d, u, hdu⟩ : ∃ d u, s.flatMap quC ++ 34 :: rest = d :: u := by
        match s.flatMap quC ++ 34 :: rest, hne with
        | d :: u, _ => exact ⟨d, u, rfl⟩
      rw [hdu, strQ, e9, e8, e5, ← hdu]
      simp only [cond_false, Bool.false_and, Bool.or_self]
      rw [ih, List.length_append]
      have e7 : acc.length + [c].length + s.length = acc.length + (c :: s).length := by simp; omega
      have e6 : i + 1 + (s.flatMap quC).length + 1 = i + ([c] ++ s.flatMap quC).length + 1 := by simp; omega
      rw [e7, e6, List.append_assoc]
      rfl
theorem one_quote (s rest : List UInt8) : oneM (quoteM s ++ rest) = bif decide (s.length ≤ 4096) then ⟨0, 0, 5, s, (quoteM s).length⟩ else ⟨5, 0, 5, [], 0⟩ := by
  have e : quoteM s ++ rest = 34 :: (s.flatMap quC ++ 34 :: rest) := by unfold quoteM; simp
  have hl : (quoteM s).length = 1 + (s.flatMap quC).length + 1 := by unfold quoteM; simp; omega
  rw [e]
  unfold oneM
  have e1 : (34 :: (s.flatMap quC ++ 34 :: rest)).getD 0 0 = (34 : UInt8) := rfl
  have e2 : (34 :: (s.flatMap quC ++ 34 :: rest)).drop 1 = s.flatMap quC ++ 34 :: rest := rfl
  rw [e1, e2, quC_str 0 s rest [] 1, hl]
  have f1 : (ltr 34 || (34 : UInt8) == 95) = false := by decide
  have f2 : ((34 : UInt8) == 46) = false := rfl
  have f3 : ((34 : UInt8) == 36) = false := rfl
  have f4 : ((34 : UInt8) == 45 || dig 34) = false := by decide
  have f5 : ((34 : UInt8) == 34) = true := rfl
  rw [f1, f2, f3, f4, f5]
  simp only [cond_false, cond_true, List.length_nil, Nat.zero_add, List.nil_append]
  cases decide (s.length ≤ 4096) <;> rfl
theorem words_quote (s : List UInt8) : wdsM (quoteM s).length (quoteM s) 0 = bif decide (s.length ≤ 4096) then ([⟨5, s, 0⟩], none) else ([], some (0, 0, 5)) := by
  obtain ⟨m, hm⟩ : ∃ m, (quoteM s).length = m + 2 := ⟨(s.flatMap quC).length, by unfold quoteM; simp⟩
  have h1 := one_quote s []
  rw [List.append_nil] at h1
  have hne : (quoteM s == []) = false := rfl
  have hb : blk ((quoteM s).getD 0 0) = false := by show blk 34 = false; decide
  have hd : (quoteM s).drop (quoteM s).length = [] := List.drop_length
  have key : ∀ n, wdsM (n + 1) (quoteM s) 0 = bif decide (s.length ≤ 4096) then ([⟨5, s, 0⟩], none) else ([], some (0, 0, 5)) := by
    intro n
    rw [wdsM, hne, hb, h1]
    simp only [cond_false]
    cases decide (s.length ≤ 4096) with
    | false => rfl
    | true =>
      simp only [cond_true]
      rw [hd]
      cases n with
      | zero => rfl
      | succ n => rw [wdsM]; rfl
  rw [hm]
  exact key (m + 1)
theorem wordsOf_quote (s : List UInt8) : wordsOf (quoteM s) = (bif decide (s.length ≤ 4096) then [⟨5, s, 0⟩] else []) ∧ wordsE (quoteM s) = (bif decide (s.length ≤ 4096) then none else some (0, 0, 5)) := by
  unfold wordsOf wordsE
  rw [words_quote]
  cases decide (s.length ≤ 4096) <;> exact ⟨rfl, rfl⟩
end Go.Mu
set_option linter.unusedVariables false
set_option linter.unusedSimpArgs false
set_option maxRecDepth 100000
namespace Go.Mu
open Go Go.Proofs
theorem win_quoted : ∀ (s rest : List UInt8) (i : Nat), win (s.flatMap quC ++ 34 :: rest) true false i = win rest false false (i + (s.flatMap quC).length + 1)
  | [], rest, i => by
    show win (34 :: rest) true false i = _
    rw [win]
    rfl
  | c :: s, rest, i => by
    have h : ∀ n : Fin 256, decide (quI (UInt8.ofNat n) ≥ 0) = false → UInt8.ofNat n ≠ 34 ∧ UInt8.ofNat n ≠ 92 := by decide +kernel
    have hc := h ⟨c.toNat, c.toNat_lt⟩
    simp only [UInt8.ofNat_toNat] at hc
    have ih := fun i => win_quoted s rest i
    rw [List.flatMap_cons, List.append_assoc]
    have eC : quC c = bif decide (quI c ≥ 0) then [92, quO c] else [c] := rfl
    rw [eC]
    cases hq : decide (quI c ≥ 0) with
    | true =>
      show win (92 :: quO c :: (s.flatMap quC ++ 34 :: rest)) true false i = _
      rw [win]
      show win (quO c :: (s.flatMap quC ++ 34 :: rest)) true true (i + 1) = _
      rw [win]
      show win (s.flatMap quC ++ 34 :: rest) true false (i + 1 + 1) = _
      rw [ih]
      congr 1
      simp; omega
    | false =>
      obtain ⟨n1, n2⟩ := hc hq
      have e9 : (c == 34) = false := by simpa using n1
      have e8 : (c == 92) = false := by simpa using n2
      show win (c :: (s.flatMap quC ++ 34 :: rest)) true false i = _
      rw [win, e8, e9]
      show win (s.flatMap quC ++ 34 :: rest) true false (i + 1) = _
      rw [ih]
      congr 1
      simp; omega
theorem win_quote (s rest : List UInt8) (i : Nat) : win (quoteM s ++ rest) false false i = win rest false false (i + (quoteM s).length) := by
  have e : quoteM s ++ rest = 34 :: (s.flatMap quC ++ 34 :: rest) := by unfold quoteM; simp
  rw [e, win]
  show win (s.flatMap quC ++ 34 :: rest) true false (i + 1) = _
  rw [win_quoted]
  congr 1
  unfold quoteM; simp; omega
theorem quote_trims (s : List UInt8) : trimsA (quoteM s) = false ∧ trimsZ (quoteM s) = false ∧ trimL (trimR (quoteM s)) = quoteM s := by
  refine ⟨?_, ?_, ?_⟩
  · unfold trimsA quoteM
    have : ((34 :: (s.flatMap quC ++ [34])).getD 0 0 == (45 : UInt8)) = false := rfl
    rw [this]; simp
  · unfold trimsZ
    have : (quoteM s).getD ((quoteM s).length - 1) 0 = (34 : UInt8) := by
      unfold quoteM
      rw [show 34 :: (s.flatMap quC ++ [34]) = (34 :: s.flatMap quC) ++ [34] by simp]
      simp
    rw [this]
    have : ((34 : UInt8) == 45) = false := rfl
    rw [this]; simp
  · have : trimR (quoteM s) = quoteM s := by
      unfold quoteM
      rw [show 34 :: (s.flatMap quC ++ [34]) = (34 :: s.flatMap quC) ++ [34] by simp, trimR_snoc]
      rfl
    rw [this]
    unfold quoteM trimL
    rfl
/-- a quoted text as an action -/
theorem items_quote (s : List UInt8) (hl : s.length ≤ 4096) {T : List UInt8} (hT0 : T = 123 :: 123 :: (quoteM s ++ [125, 125, 121])) : itBad T = false ∧ (itemsOf T).map kt = [(2, quoteM s), (1, [121])] := by
  have hlen : (quoteM s).length ≤ 8194 := by
    have := qu_len s
    unfold quoteM
    rw [List.length_cons, List.length_append]
    show _ + 1 + 1 ≤ _
    omega
  have e2 : T.drop 2 = quoteM s ++ [125, 125, 121] := by rw [hT0]; rfl
  have hR : rmIs T 0 = false := by
    unfold rmIs rmT
    rw [e2]
    rfl
  have hF : acFrom T 0 = 2 := by unfold acFrom; rw [hR]; rfl
  have hT : acTo T 0 = ((2 + (quoteM s).length : Nat) : Int) := by
    unfold acTo
    rw [hF, e2, win_quote]
    rfl
  have hI : acIn T 0 = quoteM s := by
    unfold acIn
    rw [hT, Int.toNat_natCast]
    have := mid_eq [123, 123] (quoteM s) [125, 125, 121]
    rw [hT0]
    exact this
  have hb : acBad T 0 = false := by unfold acBad; rw [hR, hT, Bool.false_and, Bool.false_or, dT (show ((2 + (quoteM s).length : Nat) : Int) ≥ 0 by omega)]; rfl
  have h8 := end_eq [123, 123] (quoteM s ++ [125, 125]) [121]
  have hd : T.drop (2 + (quoteM s).length + 2) = [121] := by
    rw [List.take_length] at h8
    have e3 : ([123, 123] : List UInt8).length + (quoteM s ++ [125, 125]).length = 2 + (quoteM s).length + 2 := by simp; omega
    rw [e3] at h8
    rw [hT0]
    have e4 : [123, 123] ++ (quoteM s ++ [125, 125] ++ [121]) = 123 :: 123 :: (quoteM s ++ [125, 125, 121]) := by simp
    rw [e4] at h8
    exact h8
  have hTl : T.length = (quoteM s).length + 5 := by rw [hT0]; simp
  obtain ⟨k1, x, k2, k3, k4, k5⟩ := items_one (s := T) (a := []) (c := quoteM s ++ [125, 125, 121]) (by rw [hT0]; rfl) rfl (by omega) hb hT (by rw [hd]; rfl)
  refine ⟨k1, ?_⟩
  obtain ⟨q1, q2, q3⟩ := quote_trims s
  have q4 : trimsT (quoteM s) = quoteM s := by unfold trimsT; rw [q1]; rfl
  have q5 : trimsU (quoteM s) = quoteM s := by unfold trimsU; rw [q2]; rfl
  rw [k5]
  obtain ⟨p1, p2⟩ := pcs_act (x := x) (n := 0) (by rw [k2]; exact hR)
  show finP (pcs (actionM x 0)) (bytesOf (actionM x 0).rows ++ putL T (trimsZ (trimsT (acIn T 0))) (2 + (quoteM s).length + 2) T.length) = _
  rw [p1, p2, k2, k3, k4, hI, q4, q2, q5, q3, q1]
  show finP (finP [] [] ++ [(2, quoteM s)]) ([] ++ (T.take T.length).drop _) = _
  rw [List.take_length, hd]
  rfl
end Go.Mu
set_option linter.unusedVariables false
set_option linter.unusedSimpArgs false
set_option maxRecDepth 100000
namespace Go.Mu
open Go Go.Proofs
def quoteToldQ (Q : List UInt8 → List UInt8) : FSp := mkFS [.s] (fun xs => decide ((aS xs 0).length ≤ 268435456)) (fun xs k => k (.ret (.str (Q (aS xs 0))) []))
noncomputable def layQu (Q : List UInt8 → List UInt8) : Lay := (((Lay.nil.addF 30 itemsTold).addF 27 alive18Told).addF 28 (quoteToldQ Q)).addF 16 wordsTold
theorem layQu_ok : (layQu quoteM).OK Tryd.prog := (((Lay.nil_ok.addF itemsTold_ok).addF alive18Told_ok).addF quoteTold_ok).addF wordsTold_ok
theorem quotes_fun (Q : List UInt8 → List UInt8) (s : List UInt8) (k : Out → Ans) : iFun Tryd.prog ((layQu Q).hd Tryd.prog) (layQu Q).fhs 0 8 [.str s] [] k = (
  let c0 : Bool := decide ((↑s.length : Int) > 4096);
  let c1 : Bool := decide (2 + (Q s).length ≤ 4611686018427387904);
  let c2 : Bool := decide ((123 :: 123 :: Q s).length + 3 ≤ 4611686018427387904);
  let l3 : List UInt8 := 123 :: 123 :: (Q s ++ [125, 125, 121]);
  let c4 : Bool := decide (16384 < l3.length);
  let c5 : Bool := bif wdErr (Q s) == 0 then false else false;
  let c6 : Bool := !c5;
  let c7 : Bool := bif c5 then false else false;
  let c8 : Bool := !c7;
  let c9 : Bool := bif c7 then [] == s else false;
  let c10 : Bool := bif bif c9 then false else false then false else false;
  let c11 : Bool := !c10;
  let c12 : Bool := [] == Q s;
  let c13 : Bool := bif c10 then c12 else false;
  let c14 : Bool := !c13;
  let c15 : Bool := itBad l3;
  let n16 : Int := (↑(itemsOf l3).length : Int);
  let c17 : Bool := decide (0 < n16);
  let c18 : Bool := n16 == 2;
  let c19 : Bool := bif bif c9 then true else false then c18 else false;
  let c20 : Bool := decide (1 < n16);
  let c21 : Bool := ((itemsOf l3).getD 0 (ItemD.mk 0 [] 0)).text == Q s;
  let c22 : Bool := bif c19 then c21 else false;
  let c23 : Bool := ((itemsOf l3).getD 1 (ItemD.mk 0 [] 0)).text == [121];
  let n24 : Int := (↑(wordsOf (Q s)).length : Int);
  let c25 : Bool := decide (0 < n24);
  let c26 : Bool := n24 == 1;
  let c27 : Bool := c25 || !c26;
  let c28 : Bool := bif c26 then ((wordsOf (Q s)).getD 0 (WdD.mk 0 [] 0)).kind == 5 else false;
  let c29 : Bool := c25 || !c28;
  let c30 : Bool := bif c28 then ((wordsOf (Q s)).getD 0 (WdD.mk 0 [] 0)).text == s else false;
  let c31 : Bool := bif bif c30 then false else false then false else false;
  let c32 : Bool := !c31;
  let c33 : Bool := bif c31 then c12 else false;
  let c34 : Bool := !c33;
  let c35 : Bool := bif bif c30 then true else false then c18 else false;
  let c36 : Bool := bif c35 then c21 else false;
  bif decide (s.length ≤ 268435456) then
    bif decide ((Q s).length ≤ 1073741824 ∧ (0 : Int) ≤ 0 ∧ (0 : Int) ≤ 1099511627776) then
      bif (wordsE (Q s)).isSome then
        bif c0 then k (Out.ret (AVal.bool (wdErr (Q s) == 5)) [])
        else
          bif c1 then
            bif c2 then
              bif c4 then
                bif c6 then
                  bif c6 then
                    bif c8 then
                      bif c8 then
                        bif c11 then
                          bif c11 then
                            bif c14 then bif c14 then k (Out.ret (AVal.bool (bif c13 then false else false)) []) else none
                            else none
                          else none
                        else none
                      else none
                    else none
                  else none
                else none
              else
                bif c15 then
                  bif c6 then
                    bif c6 then
                      bif c8 then
                        bif c8 then
                          bif c11 then
                            bif c11 then
                              bif c14 then
                                bif c14 then k (Out.ret (AVal.bool (bif c13 then false else false)) []) else none
                              else none
                            else none
                          else none
                        else none
                      else none
                    else none
                  else none
                else
                  bif c6 then
                    bif c6 then
                      bif c8 then
                        bif c8 then
                          bif c17 || !c19 then
                            bif c20 || !c22 then k (Out.ret (AVal.bool (bif c22 then c23 else false)) []) else none
                          else none
                        else none
                      else none
                    else none
                  else none
            else none
          else none
      else
        bif c0 then k (Out.ret (AVal.bool false) [])
        else
          bif c1 then
            bif c2 then
              bif c4 then
                bif c27 then
                  bif c29 then
                    bif c32 then
                      bif c32 then
                        bif c34 then bif c34 then k (Out.ret (AVal.bool (bif c33 then false else false)) []) else none
                        else none
                      else none
                    else none
                  else none
                else none
              else
                bif c15 then
                  bif c27 then
                    bif c29 then
                      bif c32 then
                        bif c32 then
                          bif c34 then bif c34 then k (Out.ret (AVal.bool (bif c33 then false else false)) []) else none
                          else none
                        else none
                      else none
                    else none
                  else none
                else
                  bif c27 then
                    bif c29 then
                      bif c17 || !c35 then
                        bif c20 || !c36 then k (Out.ret (AVal.bool (bif c36 then c23 else false)) []) else none
                      else none
                    else none
                  else none
            else none
          else none
    else none
  else none) := by kernel_rfl
theorem quotes_call (s : List UInt8) (hs : s.length ≤ 268435456) (k : Out → Ans) : iFun Tryd.prog ((layQu quoteM).hd Tryd.prog) (layQu quoteM).fhs 0 8 [.str s] [] k = k (.ret (.bool true) []) := by
  have hq : (quoteM s).length ≤ 2 * s.length + 2 := by
    have := qu_len s
    unfold quoteM
    rw [List.length_cons, List.length_append]
    show _ + 1 + 1 ≤ _
    omega
  obtain ⟨w1, w2⟩ := wordsOf_quote s
  rw [quotes_fun quoteM s k, dT hs, dT (show (quoteM s).length ≤ 1073741824 ∧ (0 : Int) ≤ 0 ∧ (0 : Int) ≤ 1099511627776 by omega)]
  by_cases hl : s.length ≤ 4096
  case neg =>
    have e0 : decide ((s.length : Int) > 4096) = true := dT (by omega)
    have e1 : decide (s.length ≤ 4096) = false := dF hl
    rw [e1] at w2
    have e2 : wdErr (quoteM s) = 5 := by unfold wdErr; rw [w2]; rfl
    rw [e0, e2, w2]
    rfl
  case pos =>
    have e0 : decide ((s.length : Int) > 4096) = false := dF (by omega)
    have e1 : decide (s.length ≤ 4096) = true := dT hl
    rw [e1] at w1 w2
    obtain ⟨i1, i2⟩ := items_quote s hl (T := 123 :: 123 :: (quoteM s ++ [125, 125, 121])) rfl
    obtain ⟨p, q, hp⟩ := kt_two i2
    have hlen : (123 :: 123 :: (quoteM s ++ [125, 125, 121])).length ≤ 16384 := by
      simp only [List.length_cons, List.length_append, List.length_nil]; omega
    have e3 : (123 :: 123 :: quoteM s).length ≤ 16384 := by simp only [List.length_cons]; omega
    have d1 : decide (2 + (quoteM s).length ≤ 4611686018427387904) = true := dT (by omega)
    have d2 : decide ((123 :: 123 :: quoteM s).length + 3 ≤ 4611686018427387904) = true := dT (by omega)
    have d3 : decide (16384 < (123 :: 123 :: (quoteM s ++ [125, 125, 121])).length) = false := dF (by omega)
    have d4 : (quoteM s == quoteM s) = true := beq_self_eq_true _
    simp only [e0, i1, hp, w1, w2, d1, d2, d3, d4, cond_true, cond_false, Option.isSome_none, List.getD_cons_zero, List.getD_cons_succ, List.length_cons, List.length_nil]
    simp
    rw [dT (show (quoteM s).length ≤ 4611686018427387899 by omega), dF (show ¬ 16384 < (quoteM s).length + 3 + 1 + 1 by omega)]
    rfl
theorem quotes_ok (s : List UInt8) (hs : s.length ≤ 268435456) : CallOK Tryd.prog 8 [.str s] [] (.ret (.bool true) []) := layQu_ok.call (quotes_call s hs)
end Go.Mu
set_option linter.unusedVariables false
namespace Go.Mu
open Go
variable {H : Type}
theorem bulk_pos (d : DataW H) : 1 ≤ Go.Proofs.YtfepcpcnfibbnaaDoor.Rows.uptoBulk d := by
  cases d with
  | lit x => cases x <;> simp [Go.Proofs.YtfepcpcnfibbnaaDoor.Rows.uptoBulk]
  | _ => simp [Go.Proofs.YtfepcpcnfibbnaaDoor.Rows.uptoBulk]
mutual
theorem size_bulk : ∀ d : DataW H, (tOf d).size ≤ Go.Proofs.YtfepcpcnfibbnaaDoor.Rows.uptoBulk d
  | .lit (.bool _) => by simp [tOf, T.size, Go.Proofs.YtfepcpcnfibbnaaDoor.Rows.uptoBulk]
  | .lit (.int _ _) => by simp [tOf, T.size, Go.Proofs.YtfepcpcnfibbnaaDoor.Rows.uptoBulk]
  | .lit (.string _) => by simp [tOf, T.size, Go.Proofs.YtfepcpcnfibbnaaDoor.Rows.uptoBulk]
  | .lit (.float _ _) => by simp [tOf, T.size, T.sizes, Go.Proofs.YtfepcpcnfibbnaaDoor.Rows.uptoBulk]
  | .lit .nil => by simp [tOf, T.size, T.sizes, Go.Proofs.YtfepcpcnfibbnaaDoor.Rows.uptoBulk]
  | .nil => by simp [tOf, T.size, T.sizes, Go.Proofs.YtfepcpcnfibbnaaDoor.Rows.uptoBulk]
  | .ptr d => by simp [tOf, T.size, T.sizes, Go.Proofs.YtfepcpcnfibbnaaDoor.Rows.uptoBulk]
  | .slice es sp => by
    have := size_bulks es
    simp only [tOf, T.size, Go.Proofs.YtfepcpcnfibbnaaDoor.Rows.uptoBulk]
    omega
  | .agg ps => by
    have := size_bulks ps
    simp only [tOf, T.size, Go.Proofs.YtfepcpcnfibbnaaDoor.Rows.uptoBulk]
    omega
  | .iface _ d => by simp [tOf, T.size, T.sizes, Go.Proofs.YtfepcpcnfibbnaaDoor.Rows.uptoBulk]
  | .map _ => by simp [tOf, T.size, T.sizes, Go.Proofs.YtfepcpcnfibbnaaDoor.Rows.uptoBulk]
  | .held _ => by simp [tOf, T.size, T.sizes, Go.Proofs.YtfepcpcnfibbnaaDoor.Rows.uptoBulk]
theorem size_bulks : ∀ ds : List (DataW H), T.sizes (tOfs ds) ≤ Go.Proofs.YtfepcpcnfibbnaaDoor.Rows.uptoBulkAll ds
  | [] => by simp [tOfs, T.sizes, Go.Proofs.YtfepcpcnfibbnaaDoor.Rows.uptoBulkAll]
  | d :: ds => by
    have := size_bulk d
    have := size_bulks ds
    simp only [tOfs, T.sizes, Go.Proofs.YtfepcpcnfibbnaaDoor.Rows.uptoBulkAll]
    omega
end
theorem small_size {ds : List (DataW H)} (h : Go.Proofs.YtfepcpcnfibbnaaDoor.Rows.uptoSmall H ds = true) : T.sizes (tOfs ds) ≤ 1048576 := by
  unfold Go.Proofs.YtfepcpcnfibbnaaDoor.Rows.uptoSmall at h
  have := size_bulks ds
  have := of_decide_eq_true h
  omega
end Go.Mu
