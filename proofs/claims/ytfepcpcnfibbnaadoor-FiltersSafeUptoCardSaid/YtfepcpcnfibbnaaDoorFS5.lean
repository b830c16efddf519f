/-
  Lemmas on the given program (part 5).
-/
import Derived.Test.YtfepcpcnfibbnaaDoorFS4
import Derived.Test.YtfepcpcnfibbnaaDoorRows
import Derived.Lib.LaidU8
set_option linter.unusedVariables false
set_option linter.unusedSimpArgs false
set_option maxRecDepth 100000
namespace Go.Mu
open Go Go.Proofs
def digsF : Nat → Nat → List UInt8 → List UInt8
  | 0, _, t => t
  | f + 1, u, t => bif u / 10 == 0 then UInt8.ofNat (48 + u % 10) :: t else digsF f (u / 10) (UInt8.ofNat (48 + u % 10) :: t)
structure PrA where
  n : Int
  at_ : Nat
  u : Nat
  t : List UInt8
def prRows (m : Nat) (t : List UInt8) : List (List AVal) := List.replicate m (byteRow 0) ++ t.map byteRow
abbrev prH (at_ : Nat) (t : List UInt8) : Heap := [.arr 1 (prRows at_ t) 0]
def prIn (H : Heap) (at_ : Nat) : List UInt8 := bytesOf ((rowsO (H.getD 0 (.var []))).drop at_)
def prOut (at_ : Int) (u : Int) (t : List UInt8) : List UInt8 := digsF (at_.toNat - 1) u.toNat t
noncomputable def prSp : LSp := mkL (fun vs _ H => PrA.mk (aI vs 0) (aI vs 2).toNat (aI vs 3).toNat (prIn H (aI vs 2).toNat)) (fun a => a.at_ + a.t.length = 20 ∧ a.u < 10 ^ (a.at_ - 1) ∧ 1 < a.at_) (fun a => [.int .i64 a.n, .eptr 0 0 0 0, .int .i64 a.at_, .int .u64 a.u]) (fun _ => []) (fun a => prH a.at_ a.t)
  (fun a k => k (.exit 0) [.int .i64 a.n, .eptr 0 0 0 0, .int .i64 (20 - (prOut a.at_ a.u a.t).length : Nat)] [] (prH (20 - (prOut a.at_ a.u a.t).length) (prOut a.at_ a.u a.t)))
noncomputable def prFH : FH := { FH.of [(5, loopSpec 34 [0,3,4,5] [] [0,3,4] [] prSp)] with arrs := [3] }
theorem pr_step (n at_ u : Int) (rows : List (List AVal)) (D : List (FuncId × List AVal)) (k : Kont) : lturn Tryd.prog Lay.nil prFH 90 5 [0,3,4,5] [] [0,3,4] [] (stL 34 [0,3,4,5] [.int .i64 n, .eptr 0 0 0 0, .int .i64 at_, .int .u64 u] [] [] [.arr 1 rows 0] D) k = (
 let c0 : Bool := !(u == u && false);
 let n1 : Int := IntKind.i64.wrap (at_ - 1);
 let m2 : Nat := n1.toNat;
 let n3 : Int := IntKind.u64.wrap (u.tdiv 10);
  bif c0 then
  bif decide (0 ≤ n1) && decide (n1 < 20) then
  bif decide (m2 < rows.length) && true then
  bif c0 then
  bif n3 == 0 then
  k (AExit.exit 0)
  (stL 34 [0, 3, 4] [AVal.int IntKind.i64 n, AVal.eptr 0 0 0 0, AVal.int IntKind.i64 n1] [] []
  [Obj.arr 1
  (rows.set m2
  ((rows.getD m2 []).set 0
  (AVal.int IntKind.u8 (IntKind.u8.wrap (IntKind.u64.wrap (48 + u.tmod 10))))))
  0]
  D)
  else
  k AExit.normal
  (stL 34 [0, 3, 4, 5]
  [AVal.int IntKind.i64 n, AVal.eptr 0 0 0 0, AVal.int IntKind.i64 n1, AVal.int IntKind.u64 n3] [] []
  [Obj.arr 1
  (rows.set m2
  ((rows.getD m2 []).set 0
  (AVal.int IntKind.u8 (IntKind.u8.wrap (IntKind.u64.wrap (48 + u.tmod 10))))))
  0]
  D)
  else none
  else none
  else none
  else none) := by kernel_rfl
theorem set_rep {α : Type} (x y : α) (l : List α) : ∀ m : Nat, (List.replicate (m + 1) x ++ l).set m y = List.replicate m x ++ y :: l
  | 0 => rfl
  | m + 1 => by
    rw [List.replicate_succ, List.cons_append, List.set_cons_succ, set_rep x y l m]
    rfl
theorem getD_rep {α : Type} (x d : α) (l : List α) (m : Nat) : (List.replicate (m + 1) x ++ l).getD m d = x := by
  rw [List.getD_eq_getElem?_getD, List.getElem?_append_left (by simp), List.getElem?_replicate]
  simp
theorem prRows_len (m : Nat) (t : List UInt8) : (prRows m t).length = m + t.length := by simp [prRows]
theorem prRows_set (m : Nat) (t : List UInt8) (c : UInt8) : (prRows (m + 1) t).set m (((prRows (m + 1) t).getD m []).set 0 (.int .u8 c.toNat)) = prRows m (c :: t) := by
  unfold prRows
  rw [getD_rep, set_rep]
  rfl
theorem prRows_drop (m : Nat) (t : List UInt8) : (prRows m t).drop m = t.map byteRow := by simp [prRows]
theorem dig_val (u : Nat) : IntKind.u8.wrap (IntKind.u64.wrap (48 + (u : Int).tmod 10)) = ((UInt8.ofNat (48 + u % 10)).toNat : Int) := by
  have e : (u : Int).tmod 10 = ((u % 10 : Nat) : Int) := rfl
  have h : u % 10 < 10 := Nat.mod_lt _ (by decide)
  rw [e, wrapU (by omega) (by omega), wrapB (by omega) (by omega), UInt8.toNat_ofNat', Nat.mod_eq_of_lt (show 48 + u % 10 < 2 ^ 8 by omega)]
  omega
theorem pr_runs (n : Int) : ∀ (m u : Nat) (t : List UInt8), m + 2 + t.length = 20 → u < 10 ^ (m + 1) →
    LoopRuns (lturn Tryd.prog Lay.nil prFH 90 5 [0,3,4,5] [] [0,3,4] []) 34 [0,3,4,5] [] [0,3,4] [] [.int .i64 n, .eptr 0 0 0 0, .int .i64 ((m + 2 : Nat) : Int), .int .u64 u] [] (prH (m + 2) t) (.exit 0)
      [.int .i64 n, .eptr 0 0 0 0, .int .i64 (20 - (digsF (m + 1) u t).length : Nat)] [] (prH (20 - (digsF (m + 1) u t).length) (digsF (m + 1) u t)) := by
  intro m
  induction m with
  | zero =>
    intro u t hl hu
    have key := fun D k => pr_step n ((0 + 2 : Nat) : Int) u (prRows (0 + 2) t) D k
    have e1 : IntKind.i64.wrap (((0 + 2 : Nat) : Int) - 1) = ((0 + 1 : Nat) : Int) := by rw [wrap_of (by omega) (by omega)]; omega
    have e2 : ((u : Int).tdiv 10) = ((u / 10 : Nat) : Int) := rfl
    have h10 : u / 10 = 0 := by omega
    have e3 : IntKind.u64.wrap ((u / 10 : Nat) : Int) = ((u / 10 : Nat) : Int) := wrapU (by omega) (by omega)
    have e4 : (prRows (0 + 2) t).length = 20 := by rw [prRows_len]; omega
    simp only [e1, e2, e3, dig_val, Int.toNat_natCast, e4, prRows_set, h10] at key
    simp (disch := omega) only [dT, cond_true, Bool.and_true, Bool.and_self, Bool.and_false, Bool.not_false] at key
    have e5 : digsF (0 + 1) u t = UInt8.ofNat (48 + u % 10) :: t := by rw [digsF, h10]; rfl
    have e6 : 20 - (UInt8.ofNat (48 + u % 10) :: t).length = 0 + 1 := by rw [List.length_cons]; omega
    rw [e5, e6]
    exact .stop (by simp) key
  | succ m ih =>
    intro u t hl hu
    have key := fun D k => pr_step n ((m + 1 + 2 : Nat) : Int) u (prRows (m + 1 + 2) t) D k
    have hb : 10 ^ (m + 1 + 1) ≤ 10 ^ 19 := Nat.pow_le_pow_right (by decide) (by omega)
    have e1 : IntKind.i64.wrap (((m + 1 + 2 : Nat) : Int) - 1) = ((m + 1 + 1 : Nat) : Int) := by rw [wrap_of (by omega) (by omega)]; omega
    have e2 : ((u : Int).tdiv 10) = ((u / 10 : Nat) : Int) := rfl
    have e3 : IntKind.u64.wrap ((u / 10 : Nat) : Int) = ((u / 10 : Nat) : Int) := wrapU (by omega) (by omega)
    have e4 : (prRows (m + 1 + 2) t).length = 20 := by rw [prRows_len]; omega
    simp only [e1, e2, e3, dig_val, Int.toNat_natCast, e4, prRows_set] at key
    simp (disch := omega) only [dT, cond_true, Bool.and_true, Bool.and_self, Bool.and_false, Bool.not_false] at key
    rw [digsF]
    by_cases h10 : u / 10 = 0
    · simp only [h10] at key ⊢
      have e6 : 20 - (UInt8.ofNat (48 + u % 10) :: t).length = m + 1 + 1 := by rw [List.length_cons]; omega
      show LoopRuns _ _ _ _ _ _ _ _ _ _ [_, _, .int .i64 (20 - (UInt8.ofNat (48 + u % 10) :: t).length : Nat)] _ (prH (20 - (UInt8.ofNat (48 + u % 10) :: t).length) (UInt8.ofNat (48 + u % 10) :: t))
      rw [e6]
      exact .stop (by simp) key
    · have e7 : (((u / 10 : Nat) : Int) == 0) = false := by simp; omega
      have e8 : (u / 10 == 0) = false := by simpa using h10
      simp only [e7, cond_false] at key
      rw [e8]
      have hu2 : u / 10 < 10 ^ (m + 1) := by rw [Nat.pow_succ] at hu; omega
      exact .step key (ih (u / 10) (UInt8.ofNat (48 + u % 10) :: t) (by rw [List.length_cons]; omega) hu2)
theorem prSp_ok : SpOK (lturn Tryd.prog Lay.nil prFH 90 5 [0,3,4,5] [] [0,3,4] []) 34 [0,3,4,5] [] [0,3,4] [] prSp := mkL_ok fun a h => by
  obtain ⟨n, at_, u, t⟩ := a
  obtain ⟨h1, h2, h3⟩ := h
  simp only at h1 h2 h3
  obtain ⟨m, rfl⟩ : ∃ m, at_ = m + 2 := ⟨at_ - 2, by omega⟩
  exact ⟨_, _, _, _, fun k => rfl, pr_runs n m u t h1 h2⟩
noncomputable def layPr : Lay := Lay.nil.addL 90 prFH
theorem layPr_ok : layPr.OK Tryd.prog := Lay.nil_ok.loop1 (id := 5) (by kernel_rfl) (by kernel_rfl) (by kernel_rfl) prSp_ok
theorem pr_fun (n : Int) (k : Out → Ans) (c0 : Bool) (e_c0 : c0 = (decide (n < 0)))
  (n1 : Int) (e_n1 : n1 = (IntKind.u64.wrap (0 - IntKind.u64.wrap n)))
  (m2 : Nat) (e_m2 : m2 = (n1.toNat))
  (n3 : Int) (e_n3 : n3 = ((↑m2 : Int)))
  (l4 : List UInt8) (e_l4 : l4 = (prOut (↑(Int.toNat 20) : Int) n3
    (prIn
      [Obj.arr 1
          [[AVal.int IntKind.u8 0], [AVal.int IntKind.u8 0], [AVal.int IntKind.u8 0], [AVal.int IntKind.u8 0],
            [AVal.int IntKind.u8 0], [AVal.int IntKind.u8 0], [AVal.int IntKind.u8 0], [AVal.int IntKind.u8 0],
            [AVal.int IntKind.u8 0], [AVal.int IntKind.u8 0], [AVal.int IntKind.u8 0], [AVal.int IntKind.u8 0],
            [AVal.int IntKind.u8 0], [AVal.int IntKind.u8 0], [AVal.int IntKind.u8 0], [AVal.int IntKind.u8 0],
            [AVal.int IntKind.u8 0], [AVal.int IntKind.u8 0], [AVal.int IntKind.u8 0], [AVal.int IntKind.u8 0]]
          0]
      (Int.toNat 20))))
  (m5 : Nat) (e_m5 : m5 = (20 - l4.length))
  (m6 : Nat) (e_m6 : m6 = ((prRows m5 l4).length))
  (c7 : Bool) (e_c7 : c7 = (decide (20 ≤ m6)))
  (n8 : Int) (e_n8 : n8 = ((↑m5 : Int)))
  (n9 : Int) (e_n9 : n9 = (IntKind.i64.wrap (n8 - 1)))
  (c10 : Bool) (e_c10 : c10 = (decide (0 ≤ n9)))
  (c11 : Bool) (e_c11 : c11 = (decide (n9 ≤ 20)))
  (m12 : Nat) (e_m12 : m12 = (n9.toNat))
  (m13 : Nat) (e_m13 : m13 = ((20 - n9).toNat))
  (m14 : Nat) (e_m14 : m14 = (((prRows m5 l4).set m12 (((prRows m5 l4).getD m12 []).set 0 (AVal.int IntKind.u8 45))).length))
  (m15 : Nat) (e_m15 : m15 = (n8.toNat))
  (m16 : Nat) (e_m16 : m16 = ((20 - n8).toNat))
  (n17 : Int) (e_n17 : n17 = ((↑(IntKind.u64.wrap n).toNat : Int)))
  (l18 : List UInt8) (e_l18 : l18 = (prOut (↑(Int.toNat 20) : Int) n17
    (prIn
      [Obj.arr 1
          [[AVal.int IntKind.u8 0], [AVal.int IntKind.u8 0], [AVal.int IntKind.u8 0], [AVal.int IntKind.u8 0],
            [AVal.int IntKind.u8 0], [AVal.int IntKind.u8 0], [AVal.int IntKind.u8 0], [AVal.int IntKind.u8 0],
            [AVal.int IntKind.u8 0], [AVal.int IntKind.u8 0], [AVal.int IntKind.u8 0], [AVal.int IntKind.u8 0],
            [AVal.int IntKind.u8 0], [AVal.int IntKind.u8 0], [AVal.int IntKind.u8 0], [AVal.int IntKind.u8 0],
            [AVal.int IntKind.u8 0], [AVal.int IntKind.u8 0], [AVal.int IntKind.u8 0], [AVal.int IntKind.u8 0]]
          0]
      (Int.toNat 20))))
  (m19 : Nat) (e_m19 : m19 = (20 - l18.length))
  (m20 : Nat) (e_m20 : m20 = ((prRows m19 l18).length))
  (c21 : Bool) (e_c21 : c21 = (decide (20 ≤ m20)))
  (n22 : Int) (e_n22 : n22 = ((↑m19 : Int)))
  (n23 : Int) (e_n23 : n23 = (IntKind.i64.wrap (n22 - 1)))
  (c24 : Bool) (e_c24 : c24 = (decide (0 ≤ n23)))
  (c25 : Bool) (e_c25 : c25 = (decide (n23 ≤ 20)))
  (m26 : Nat) (e_m26 : m26 = (n23.toNat))
  (m27 : Nat) (e_m27 : m27 = ((20 - n23).toNat))
  (m28 : Nat) (e_m28 : m28 = (((prRows m19 l18).set m26 (((prRows m19 l18).getD m26 []).set 0 (AVal.int IntKind.u8 45))).length))
  (m29 : Nat) (e_m29 : m29 = (n22.toNat))
  (m30 : Nat) (e_m30 : m30 = ((20 - n22).toNat)) : iFun Tryd.prog (layPr.hd Tryd.prog) layPr.fhs 0 90 [.int .i64 n] [] k = (
  bif c0 then
  bif
  tst
  ((Int.toNat 20 + 0 = 20 ∧ m2 < 10 ^ (Int.toNat 20 - 1) ∧ 1 < Int.toNat 20) ∧
  SubTL [AVal.int IntKind.i64 n, AVal.eptr 0 0 0 0, AVal.int IntKind.i64 20, AVal.int IntKind.u64 n1]
  [AVal.int IntKind.i64 n, AVal.eptr 0 0 0 0, AVal.int IntKind.i64 (↑(Int.toNat 20) : Int),
  AVal.int IntKind.u64 n3] ∧
  ([] : List (List AVal)) = [] ∧
  [Obj.arr 1
  [[AVal.int IntKind.u8 0], [AVal.int IntKind.u8 0], [AVal.int IntKind.u8 0], [AVal.int IntKind.u8 0],
  [AVal.int IntKind.u8 0], [AVal.int IntKind.u8 0], [AVal.int IntKind.u8 0],
  [AVal.int IntKind.u8 0], [AVal.int IntKind.u8 0], [AVal.int IntKind.u8 0],
  [AVal.int IntKind.u8 0], [AVal.int IntKind.u8 0], [AVal.int IntKind.u8 0],
  [AVal.int IntKind.u8 0], [AVal.int IntKind.u8 0], [AVal.int IntKind.u8 0],
  [AVal.int IntKind.u8 0], [AVal.int IntKind.u8 0], [AVal.int IntKind.u8 0],
  [AVal.int IntKind.u8 0]]
  0] =
  prH (Int.toNat 20)
  (prIn
  [Obj.arr 1
  [[AVal.int IntKind.u8 0], [AVal.int IntKind.u8 0], [AVal.int IntKind.u8 0],
  [AVal.int IntKind.u8 0], [AVal.int IntKind.u8 0], [AVal.int IntKind.u8 0],
  [AVal.int IntKind.u8 0], [AVal.int IntKind.u8 0], [AVal.int IntKind.u8 0],
  [AVal.int IntKind.u8 0], [AVal.int IntKind.u8 0], [AVal.int IntKind.u8 0],
  [AVal.int IntKind.u8 0], [AVal.int IntKind.u8 0], [AVal.int IntKind.u8 0],
  [AVal.int IntKind.u8 0], [AVal.int IntKind.u8 0], [AVal.int IntKind.u8 0],
  [AVal.int IntKind.u8 0], [AVal.int IntKind.u8 0]]
  0]
  (Int.toNat 20))) then
  bif c0 then
  bif c7 && c10 && c11 && true then
  bif decide (m12 < m6) && true && decide (0 < m13) then
  bif decide (20 ≤ m14) && c10 && c11 && true then
  bif
  decide (m12 + m13 ≤ m14) &&
  (List.take m13
  (List.drop m12
  ((prRows m5 l4).set m12 (((prRows m5 l4).getD m12 []).set 0 (AVal.int IntKind.u8 45))))).all
  fun (r : List AVal) =>
  match r with
  | [v] => isInt IntKind.u8 v
  | x => false then
  k
  (Out.ret
  (AVal.str
  (List.map (fun (r : List AVal) => UInt8.ofNat (intOf (r.getD 0 AVal.undef)).toNat)
  (List.take m13
  (List.drop m12
  ((prRows m5 l4).set m12 (((prRows m5 l4).getD m12 []).set 0 (AVal.int IntKind.u8 45)))))))
  [Obj.arr 1 ((prRows m5 l4).set m12 (((prRows m5 l4).getD m12 []).set 0 (AVal.int IntKind.u8 45))) 0])
  else none
  else none
  else none
  else none
  else
  bif c7 && true && decide (n8 ≤ 20) && true then
  bif
  decide (m15 + m16 ≤ m6) &&
  (List.take m16 (List.drop m15 (prRows m5 l4))).all fun (r : List AVal) =>
  match r with
  | [v] => isInt IntKind.u8 v
  | x => false then
  k
  (Out.ret
  (AVal.str
  (List.map (fun (r : List AVal) => UInt8.ofNat (intOf (r.getD 0 AVal.undef)).toNat)
  (List.take m16 (List.drop m15 (prRows m5 l4)))))
  (prH m5 l4))
  else none
  else none
  else none
  else
  bif
  tst
  ((Int.toNat 20 + 0 = 20 ∧ (IntKind.u64.wrap n).toNat < 10 ^ (Int.toNat 20 - 1) ∧ 1 < Int.toNat 20) ∧
  SubTL
  [AVal.int IntKind.i64 n, AVal.eptr 0 0 0 0, AVal.int IntKind.i64 20,
  AVal.int IntKind.u64 (IntKind.u64.wrap n)]
  [AVal.int IntKind.i64 n, AVal.eptr 0 0 0 0, AVal.int IntKind.i64 (↑(Int.toNat 20) : Int),
  AVal.int IntKind.u64 n17] ∧
  ([] : List (List AVal)) = [] ∧
  [Obj.arr 1
  [[AVal.int IntKind.u8 0], [AVal.int IntKind.u8 0], [AVal.int IntKind.u8 0], [AVal.int IntKind.u8 0],
  [AVal.int IntKind.u8 0], [AVal.int IntKind.u8 0], [AVal.int IntKind.u8 0],
  [AVal.int IntKind.u8 0], [AVal.int IntKind.u8 0], [AVal.int IntKind.u8 0],
  [AVal.int IntKind.u8 0], [AVal.int IntKind.u8 0], [AVal.int IntKind.u8 0],
  [AVal.int IntKind.u8 0], [AVal.int IntKind.u8 0], [AVal.int IntKind.u8 0],
  [AVal.int IntKind.u8 0], [AVal.int IntKind.u8 0], [AVal.int IntKind.u8 0],
  [AVal.int IntKind.u8 0]]
  0] =
  prH (Int.toNat 20)
  (prIn
  [Obj.arr 1
  [[AVal.int IntKind.u8 0], [AVal.int IntKind.u8 0], [AVal.int IntKind.u8 0],
  [AVal.int IntKind.u8 0], [AVal.int IntKind.u8 0], [AVal.int IntKind.u8 0],
  [AVal.int IntKind.u8 0], [AVal.int IntKind.u8 0], [AVal.int IntKind.u8 0],
  [AVal.int IntKind.u8 0], [AVal.int IntKind.u8 0], [AVal.int IntKind.u8 0],
  [AVal.int IntKind.u8 0], [AVal.int IntKind.u8 0], [AVal.int IntKind.u8 0],
  [AVal.int IntKind.u8 0], [AVal.int IntKind.u8 0], [AVal.int IntKind.u8 0],
  [AVal.int IntKind.u8 0], [AVal.int IntKind.u8 0]]
  0]
  (Int.toNat 20))) then
  bif c0 then
  bif c21 && c24 && c25 && true then
  bif decide (m26 < m20) && true && decide (0 < m27) then
  bif decide (20 ≤ m28) && c24 && c25 && true then
  bif
  decide (m26 + m27 ≤ m28) &&
  (List.take m27
  (List.drop m26
  ((prRows m19 l18).set m26
  (((prRows m19 l18).getD m26 []).set 0 (AVal.int IntKind.u8 45))))).all
  fun (r : List AVal) =>
  match r with
  | [v] => isInt IntKind.u8 v
  | x => false then
  k
  (Out.ret
  (AVal.str
  (List.map (fun (r : List AVal) => UInt8.ofNat (intOf (r.getD 0 AVal.undef)).toNat)
  (List.take m27
  (List.drop m26
  ((prRows m19 l18).set m26 (((prRows m19 l18).getD m26 []).set 0 (AVal.int IntKind.u8 45)))))))
  [Obj.arr 1 ((prRows m19 l18).set m26 (((prRows m19 l18).getD m26 []).set 0 (AVal.int IntKind.u8 45)))
  0])
  else none
  else none
  else none
  else none
  else
  bif c21 && true && decide (n22 ≤ 20) && true then
  bif
  decide (m29 + m30 ≤ m20) &&
  (List.take m30 (List.drop m29 (prRows m19 l18))).all fun (r : List AVal) =>
  match r with
  | [v] => isInt IntKind.u8 v
  | x => false then
  k
  (Out.ret
  (AVal.str
  (List.map (fun (r : List AVal) => UInt8.ofNat (intOf (r.getD 0 AVal.undef)).toNat)
  (List.take m30 (List.drop m29 (prRows m19 l18)))))
  (prH m19 l18))
  else none
  else none
  else none) := by
  subst e_c0 e_n1 e_m2 e_n3 e_l4 e_m5 e_m6 e_c7 e_n8 e_n9 e_c10 e_c11 e_m12 e_m13 e_m14 e_m15 e_m16 e_n17 e_l18 e_m19 e_m20 e_c21 e_n22 e_n23 e_c24 e_c25 e_m26 e_m27 e_m28 e_m29 e_m30
  kernel_rfl
def printM (n : Int) : List UInt8 := bif decide (n < 0) then 45 :: digsF 19 n.natAbs [] else digsF 19 n.natAbs []
theorem digsF_len : ∀ (f u : Nat) (t : List UInt8), (digsF f u t).length ≤ t.length + f
  | 0, u, t => Nat.le_refl _
  | f + 1, u, t => by
    rw [digsF]
    cases u / 10 == 0 with
    | true => simp
    | false =>
      have := digsF_len f (u / 10) (UInt8.ofNat (48 + u % 10) :: t)
      simp only [cond_false]
      rw [List.length_cons] at this
      omega
theorem all_map (t : List UInt8) : ((t.map byteRow).all fun (r : List AVal) => match r with | [v] => isInt IntKind.u8 v | x => false) = true := by
  rw [List.all_map, List.all_eq_true]
  intro c hc
  rfl
theorem back_map (t : List UInt8) : List.map (fun (r : List AVal) => UInt8.ofNat (intOf (r.getD 0 AVal.undef)).toNat) (t.map byteRow) = t := bytesOf_map t
theorem pr_neg (n : Int) (h : -9223372036854775808 ≤ n) (h0 : n < 0) (k : Out → Ans) : ∃ G, ∀ k, iFun Tryd.prog (layPr.hd Tryd.prog) layPr.fhs 0 90 [.int .i64 n] [] k = k (.ret (.str (45 :: digsF 19 n.natAbs [])) G) := by
  have hL := digsF_len 19 n.natAbs []
  obtain ⟨L, e⟩ : ∃ L, L = digsF 19 n.natAbs [] := ⟨_, rfl⟩
  rw [← e] at hL ⊢
  simp only [List.length_nil, Nat.zero_add] at hL
  obtain ⟨m, hm⟩ : ∃ m, 20 - L.length = m + 1 := ⟨19 - L.length, by omega⟩
  have hw : IntKind.u64.wrap (0 - IntKind.u64.wrap n) = (n.natAbs : Int) := by
    simp [IntKind.wrap, IntKind.signed, IntKind.bits]
    omega
  have e1 : IntKind.i64.wrap (((m + 1 : Nat) : Int) - 1) = ((m : Nat) : Int) := by rw [wrap_of (by omega) (by omega)]; omega
  refine ⟨[.arr 1 (prRows m (45 :: L)) 0], fun k => (pr_fun n k true (dT h0).symm _ hw.symm n.natAbs (Int.toNat_natCast _).symm _ rfl L e (m + 1) hm.symm 20 (by rw [prRows_len]; omega) true rfl ((m + 1 : Nat) : Int) rfl (m : Int) e1.symm true (dT (by omega)).symm true (dT (by omega)).symm m (Int.toNat_natCast _).symm (L.length + 1) (by omega) 20 (by rw [List.length_set, prRows_len]; omega) (m + 1) (Int.toNat_natCast _).symm L.length (by omega) _ rfl _ rfl _ rfl _ rfl _ rfl _ rfl _ rfl _ rfl _ rfl _ rfl _ rfl _ rfl _ rfl _ rfl).trans ?_⟩
  · have hu : n.natAbs < 10 ^ (Int.toNat 20 - 1) := by
      show n.natAbs < 10 ^ 19
      omega
    rw [tst_true ⟨⟨rfl, hu, by decide⟩, .refl _, rfl, rfl⟩]
    have e2 : (prRows (m + 1) L).set m (((prRows (m + 1) L).getD m []).set 0 (.int .u8 45)) = prRows m (45 :: L) := prRows_set m L 45
    have e3 : List.take (L.length + 1) ((45 :: L).map byteRow) = (45 :: L).map byteRow := List.take_of_length_le (by simp)
    rw [e2, prRows_drop, e3, all_map, back_map]
    simp (disch := omega) only [dT, cond_true, Bool.and_true, Bool.and_self]
theorem pr_pos (n : Int) (h : n ≤ 9223372036854775807) (h0 : ¬ n < 0) : ∃ G, ∀ k, iFun Tryd.prog (layPr.hd Tryd.prog) layPr.fhs 0 90 [.int .i64 n] [] k = k (.ret (.str (digsF 19 n.natAbs [])) G) := by
  have hL := digsF_len 19 n.natAbs []
  obtain ⟨L, e⟩ : ∃ L, L = digsF 19 n.natAbs [] := ⟨_, rfl⟩
  rw [← e] at hL ⊢
  simp only [List.length_nil, Nat.zero_add] at hL
  have hw : IntKind.u64.wrap n = (n.natAbs : Int) := by rw [wrapU (by omega) (by omega)]; omega
  obtain ⟨m, hm⟩ : ∃ m, 20 - L.length = m := ⟨_, rfl⟩
  have hw2 : ((IntKind.u64.wrap n).toNat : Int) = (n.natAbs : Int) := by rw [hw]; rfl
  refine ⟨prH m L, fun k => (pr_fun n k false (dF h0).symm _ rfl _ rfl _ rfl _ rfl _ rfl _ rfl _ rfl _ rfl _ rfl _ rfl _ rfl _ rfl _ rfl _ rfl _ rfl _ rfl (n.natAbs : Int) hw2.symm L e m hm.symm 20 (by rw [prRows_len]; omega) true rfl (m : Int) rfl _ rfl _ rfl _ rfl _ rfl _ rfl _ rfl m (Int.toNat_natCast _).symm L.length (by omega)).trans ?_⟩
  · have hu : (IntKind.u64.wrap n).toNat < 10 ^ (Int.toNat 20 - 1) := by
      show (IntKind.u64.wrap n).toNat < 10 ^ 19
      rw [hw]; omega
    rw [hw] at hu
    rw [cond_false, hw]
    rw [tst_true ⟨⟨rfl, hu, by decide⟩, .refl _, rfl, rfl⟩]
    have e3 : List.take L.length (L.map byteRow) = L.map byteRow := List.take_of_length_le (by simp)
    rw [prRows_drop, e3, all_map, back_map]
    simp (disch := omega) only [dT, cond_true, cond_false, Bool.and_true, Bool.and_self]
theorem pr_ok (n : Int) (h1 : -9223372036854775808 ≤ n) (h2 : n ≤ 9223372036854775807) : CallOK Tryd.prog 90 [.int .i64 n] [] (.ret (.str (printM n)) []) := by
  unfold printM
  by_cases h0 : n < 0
  · rw [dT h0]
    obtain ⟨G, h⟩ := pr_neg n h1 h0 (fun _ => none)
    exact layPr_ok.callF (G := G) rfl h
  · rw [dF h0]
    obtain ⟨G, h⟩ := pr_pos n h2 h0
    exact layPr_ok.callF (G := G) rfl h
def prTold : FSp := mkFS [.i .i64] (fun xs => decide (-9223372036854775808 ≤ aI xs 0 ∧ aI xs 0 ≤ 9223372036854775807)) (fun xs k => k (.ret (.str (printM (aI xs 0))) []))
theorem prTold_ok : ∀ xs H k out, prTold xs H k = some out → ∃ o, CallOK Tryd.prog 90 xs H o ∧ k o = some out := mkFS_ok fun ys xs e h => by
  obtain ⟨n, rfl⟩ : ∃ n, xs = [.int .i64 n] := ⟨_, e⟩
  replace h : -9223372036854775808 ≤ n ∧ n ≤ 9223372036854775807 := of_decide_eq_true h
  exact ⟨_, fun k => rfl, pr_ok n h.1 h.2⟩
end Go.Mu
set_option linter.unusedVariables false
set_option linter.unusedSimpArgs false
set_option maxRecDepth 100000
namespace Go.Mu
open Go Go.Proofs
def fnIs (g : AVal) (n : Nat) : Bool := match g with
  | .func f _ => f == n
  | _ => false
def alOk (Wl : AVal → Prop) (h : b1H) (g l : AVal) : Prop := h.x.can 1 3 ∧ h.x.t.length ≤ 1 ∧ Wl l ∧ (g = .func 163 [] ∨ g = .func 164 [.ptr (.hp 0) 0] ∧ ∃ v : VaD, h.P0 = .var (encVa v) ∧ (v.keys.map (fun k => 16 + 16 * k.length)).sum ≤ 16777216)
abbrev AlE1 := AVal → Bld → Bld
abbrev AlE2 := List AVal → AVal → Bld → Bld
noncomputable def alSp (Wl : AVal → Prop) (E1 : AlE1) (E2 : AlE2) : LSp := mkL (fun vs bs H => (b1H.dec H, vs.getD 1 .undef, vs.getD 2 .undef)) (fun a => alOk Wl a.1 a.2.1 a.2.2) (fun a => [.ptr (.hp 1) 0, a.2.1, canV a.2.2, .int .i64 (lnV a.2.2), .int .i64 0]) (fun _ => []) (fun a => a.1.heap)
  (fun a k => cond (fnIs a.2.1 163) (k (.exit 0) [] [] ({ a.1 with x := E1 a.2.2 a.1.x } : b1H).heap) (k (.exit 0) [] [] ({ a.1 with x := E2 (cellsO a.1.P0) a.2.2 a.1.x } : b1H).heap))
noncomputable def alFH (Wl : AVal → Prop) (E1 : AlE1) (E2 : AlE2) : FH := .of [(1, loopSpec 29 [0,2,8,9,10] [] [] [] (alSp Wl E1 E2))]
noncomputable def pvTold (W : List AVal → Prop) (R : List AVal → List UInt8) : FSp := vrTold W (fun x k => k (.ret (.str (R x)) []))
noncomputable def layAl0 (W : List AVal → Prop) (R : List AVal → List UInt8) : Lay := b1_lay ((Lay.nil.addF 103 (pvTold W R)).addF 90 prTold)
theorem al_step1 (W : List AVal → Prop) (R : List AVal → List UInt8) (Wl : AVal → Prop) (E1 : AlE1) (E2 : AlE2) (P0 : Obj) (x : Bld) (f : Bool) (q : Nat) (g : Nat → VaD) (n i : Int) (D : List (FuncId × List AVal)) (k : Kont) (l0 : List UInt8) (e_l0 : l0 = ((Bld.mk x.ad x.b x.rows x.v).t))
  (m1 : Nat) (e_m1 : m1 = (l0.length))
  (m2 : Nat) (e_m2 : m2 = (wsV l0 [UInt8.ofNat (Int.toNat 32)] x.v))
  (l3 : List UInt8) (e_l3 : l3 = ((Bld.mk (AVal.ptr (Oid.hp 1) 0) (bfB 3 (l0.append [UInt8.ofNat (Int.toNat 32)]) m2)
      (x.rows.append [[AVal.int IntKind.u8 (↑(UInt8.ofNat (Int.toNat 32)).toNat : Int)]]) m2).t))
  (c4 : Bool) (e_c4 : c4 = (tst
    (W
        (cellsA
          (AVal.agg
            [AVal.int IntKind.i64 (g i.toNat).kind, AVal.int IntKind.i64 (g i.toNat).int, AVal.str (g i.toNat).text,
              AVal.list (g i.toNat).lf (g i.toNat).ln (g i.toNat).lr,
              AVal.list (g i.toNat).kf (g i.toNat).keys.length fun (i_1 : Nat) =>
                [AVal.str ((g i.toNat).keys.getD i_1 [])]])) ∧
      SubL
          [AVal.agg
              [AVal.int IntKind.i64 (g i.toNat).kind, AVal.int IntKind.i64 (g i.toNat).int, AVal.str (g i.toNat).text,
                AVal.list (g i.toNat).lf (g i.toNat).ln (g i.toNat).lr,
                AVal.list (g i.toNat).kf (g i.toNat).keys.length fun (i_1 : Nat) =>
                  [AVal.str ((g i.toNat).keys.getD i_1 [])]]]
          [AVal.agg
              (cellsA
                (AVal.agg
                  [AVal.int IntKind.i64 (g i.toNat).kind, AVal.int IntKind.i64 (g i.toNat).int,
                    AVal.str (g i.toNat).text, AVal.list (g i.toNat).lf (g i.toNat).ln (g i.toNat).lr,
                    AVal.list (g i.toNat).kf (g i.toNat).keys.length fun (i_1 : Nat) =>
                      [AVal.str ((g i.toNat).keys.getD i_1 [])]]))] ∧
        ([] : Heap) = [])))
  (m5 : Nat) (e_m5 : m5 = (wsV l3 [] m2))
  (l6 : List UInt8) (e_l6 : l6 = ((Bld.mk (AVal.ptr (Oid.hp 1) 0) (bfB 3 (l3.append []) m5)
      ((x.rows.append [[AVal.int IntKind.u8 (↑(UInt8.ofNat (Int.toNat 32)).toNat : Int)]]).append []) m5).t))
  (l7 : List UInt8) (e_l7 : l7 = (R
    (cellsA
      (AVal.agg
        [AVal.int IntKind.i64 (g i.toNat).kind, AVal.int IntKind.i64 (g i.toNat).int, AVal.str (g i.toNat).text,
          AVal.list (g i.toNat).lf (g i.toNat).ln (g i.toNat).lr,
          AVal.list (g i.toNat).kf (g i.toNat).keys.length fun (i_1 : Nat) =>
            [AVal.str ((g i.toNat).keys.getD i_1 [])]]))))
  (m8 : Nat) (e_m8 : m8 = (l7.length))
  (m9 : Nat) (e_m9 : m9 = (wsV l6 l7 m5))
  (m10 : Nat) (e_m10 : m10 = (wsV l0 [] x.v))
  (l11 : List UInt8) (e_l11 : l11 = ((Bld.mk (AVal.ptr (Oid.hp 1) 0) (bfB 3 (l0.append []) m10) (x.rows.append []) m10).t))
  (m12 : Nat) (e_m12 : m12 = (wsV l11 l7 m10)) : lturn Tryd.prog (layAl0 W R) (alFH Wl E1 E2) 162 1 [0,2,8,9,10] [] [] [] (stL 29 [0,2,8,9,10] [.ptr (.hp 1) 0, .func 163 [], .list f q (fun i => encVa (g i)), .int .i64 n, .int .i64 i] [] [] (b1H.mk P0 x).heap D) k = (
  bif decide (i < n) then
  bif decide (0 ≤ i) && decide (i < (↑q : Int)) then
  bif decide (i > 0) then
  bif
  tst
  ((Bld.can 1 3 (Bld.mk x.ad x.b x.rows x.v) ∧ m1 ≤ 1073741824) ∧
  SubL [AVal.ptr (Oid.hp 1) 0, AVal.int IntKind.u8 32]
  [AVal.ptr (Oid.hp 1) 0, AVal.int IntKind.u8 (↑(UInt8.ofNat (Int.toNat 32)).toNat : Int)] ∧
  (b1H.mk P0 x).heap = (b1H.mk P0 (Bld.mk x.ad x.b x.rows x.v)).heap) then
  bif
  tst
  ((Bld.can 1 3
  (Bld.mk (AVal.ptr (Oid.hp 1) 0) (bfB 3 (l0.append [UInt8.ofNat (Int.toNat 32)]) m2)
  (x.rows.append [[AVal.int IntKind.u8 (↑(UInt8.ofNat (Int.toNat 32)).toNat : Int)]]) m2) ∧
  l3.length + 0 ≤ 1099511627776) ∧
  SubL [AVal.ptr (Oid.hp 1) 0, AVal.str []] [AVal.ptr (Oid.hp 1) 0, AVal.str []] ∧
  (b1H.mk P0
  (Bld.mk (AVal.ptr (Oid.hp 1) 0) (bfB 3 (l0.append [UInt8.ofNat (Int.toNat 32)]) m2)
  (x.rows.append [[AVal.int IntKind.u8 (↑(UInt8.ofNat (Int.toNat 32)).toNat : Int)]])
  m2)).heap =
  (b1H.mk P0
  (Bld.mk (AVal.ptr (Oid.hp 1) 0) (bfB 3 (l0.append [UInt8.ofNat (Int.toNat 32)]) m2)
  (x.rows.append [[AVal.int IntKind.u8 (↑(UInt8.ofNat (Int.toNat 32)).toNat : Int)]])
  m2)).heap) then
  bif c4 then
  bif
  tst
  ((Bld.can 1 3
  (Bld.mk (AVal.ptr (Oid.hp 1) 0) (bfB 3 (l3.append []) m5)
  ((x.rows.append [[AVal.int IntKind.u8 (↑(UInt8.ofNat (Int.toNat 32)).toNat : Int)]]).append
  [])
  m5) ∧
  l6.length + m8 ≤ 1099511627776) ∧
  SubL [AVal.ptr (Oid.hp 1) 0, AVal.str l7] [AVal.ptr (Oid.hp 1) 0, AVal.str l7] ∧
  (b1H.mk P0
  (Bld.mk (AVal.ptr (Oid.hp 1) 0) (bfB 3 (l3.append []) m5)
  ((x.rows.append
  [[AVal.int IntKind.u8 (↑(UInt8.ofNat (Int.toNat 32)).toNat : Int)]]).append
  [])
  m5)).heap =
  (b1H.mk P0
  (Bld.mk (AVal.ptr (Oid.hp 1) 0) (bfB 3 (l3.append []) m5)
  ((x.rows.append
  [[AVal.int IntKind.u8 (↑(UInt8.ofNat (Int.toNat 32)).toNat : Int)]]).append
  [])
  m5)).heap) then
  k AExit.normal
  (stL 29 [0, 2, 8, 9, 10]
  [AVal.ptr (Oid.hp 1) 0, AVal.func 163 [], AVal.list f q fun (i : Nat) => encVa (g i),
  AVal.int IntKind.i64 n, AVal.int IntKind.i64 (IntKind.i64.wrap (i + 1))]
  [] []
  (b1H.mk P0
  (Bld.mk (AVal.ptr (Oid.hp 1) 0) (bfB 3 (l6.append l7) m9)
  (((x.rows.append [[AVal.int IntKind.u8 (↑(UInt8.ofNat (Int.toNat 32)).toNat : Int)]]).append
  []).append
  (List.map (fun (c : UInt8) => [AVal.int IntKind.u8 (↑c.toNat : Int)]) l7))
  m9)).heap
  D)
  else none
  else none
  else none
  else none
  else
  bif
  tst
  ((Bld.can 1 3 (Bld.mk x.ad x.b x.rows x.v) ∧ m1 + 0 ≤ 1099511627776) ∧
  SubL [AVal.ptr (Oid.hp 1) 0, AVal.str []] [AVal.ptr (Oid.hp 1) 0, AVal.str []] ∧
  (b1H.mk P0 x).heap = (b1H.mk P0 (Bld.mk x.ad x.b x.rows x.v)).heap) then
  bif c4 then
  bif
  tst
  ((Bld.can 1 3 (Bld.mk (AVal.ptr (Oid.hp 1) 0) (bfB 3 (l0.append []) m10) (x.rows.append []) m10) ∧
  l11.length + m8 ≤ 1099511627776) ∧
  SubL [AVal.ptr (Oid.hp 1) 0, AVal.str l7] [AVal.ptr (Oid.hp 1) 0, AVal.str l7] ∧
  (b1H.mk P0
  (Bld.mk (AVal.ptr (Oid.hp 1) 0) (bfB 3 (l0.append []) m10) (x.rows.append []) m10)).heap =
  (b1H.mk P0
  (Bld.mk (AVal.ptr (Oid.hp 1) 0) (bfB 3 (l0.append []) m10) (x.rows.append []) m10)).heap) then
  k AExit.normal
  (stL 29 [0, 2, 8, 9, 10]
  [AVal.ptr (Oid.hp 1) 0, AVal.func 163 [], AVal.list f q fun (i : Nat) => encVa (g i),
  AVal.int IntKind.i64 n, AVal.int IntKind.i64 (IntKind.i64.wrap (i + 1))]
  [] []
  (b1H.mk P0
  (Bld.mk (AVal.ptr (Oid.hp 1) 0) (bfB 3 (l11.append l7) m12)
  ((x.rows.append []).append
  (List.map (fun (c : UInt8) => [AVal.int IntKind.u8 (↑c.toNat : Int)]) l7))
  m12)).heap
  D)
  else none
  else none
  else none
  else none
  else k (AExit.exit 0) (stL 29 [] [] [] [] (b1H.mk P0 x).heap D)) := by
  subst e_l0 e_m1 e_m2 e_l3 e_c4 e_m5 e_l6 e_l7 e_m8 e_m9 e_m10 e_l11 e_m12
  kernel_rfl
theorem al_step2 (W : List AVal → Prop) (R : List AVal → List UInt8) (Wl : AVal → Prop) (E1 : AlE1) (E2 : AlE2) (v : VaD) (x : Bld) (f : Bool) (q : Nat) (g : Nat → VaD) (n i : Int) (D : List (FuncId × List AVal)) (k : Kont) (c0 : Bool) (e_c0 : c0 = (decide (0 ≤ i)))
  (l1 : List UInt8) (e_l1 : l1 = ((Bld.mk x.ad x.b x.rows x.v).t))
  (m2 : Nat) (e_m2 : m2 = (l1.length))
  (c3 : Bool) (e_c3 : c3 = (decide (i < (↑v.keys.length : Int))))
  (c4 : Bool) (e_c4 : c4 = (c0 && c3))
  (l5 : List UInt8) (e_l5 : l5 = (v.keys.getD i.toNat []))
  (c6 : Bool) (e_c6 : c6 = (decide (l5.length + 1 ≤ 4611686018427387904)))
  (m7 : Nat) (e_m7 : m7 = (wsV l1 [UInt8.ofNat (Int.toNat 32)] x.v))
  (l8 : List UInt8) (e_l8 : l8 = ((Bld.mk (AVal.ptr (Oid.hp 1) 0) (bfB 3 (l1.append [UInt8.ofNat (Int.toNat 32)]) m7)
      (x.rows.append [[AVal.int IntKind.u8 (↑(UInt8.ofNat (Int.toNat 32)).toNat : Int)]]) m7).t))
  (m9 : Nat) (e_m9 : m9 = (l8.length))
  (l10 : List UInt8) (e_l10 : l10 = (l5.append [58]))
  (m11 : Nat) (e_m11 : m11 = (l10.length))
  (c12 : Bool) (e_c12 : c12 = (tst
    (W
        (cellsA
          (AVal.agg
            [AVal.int IntKind.i64 (g i.toNat).kind, AVal.int IntKind.i64 (g i.toNat).int, AVal.str (g i.toNat).text,
              AVal.list (g i.toNat).lf (g i.toNat).ln (g i.toNat).lr,
              AVal.list (g i.toNat).kf (g i.toNat).keys.length fun (i_1 : Nat) =>
                [AVal.str ((g i.toNat).keys.getD i_1 [])]])) ∧
      SubL
          [AVal.agg
              [AVal.int IntKind.i64 (g i.toNat).kind, AVal.int IntKind.i64 (g i.toNat).int, AVal.str (g i.toNat).text,
                AVal.list (g i.toNat).lf (g i.toNat).ln (g i.toNat).lr,
                AVal.list (g i.toNat).kf (g i.toNat).keys.length fun (i_1 : Nat) =>
                  [AVal.str ((g i.toNat).keys.getD i_1 [])]]]
          [AVal.agg
              (cellsA
                (AVal.agg
                  [AVal.int IntKind.i64 (g i.toNat).kind, AVal.int IntKind.i64 (g i.toNat).int,
                    AVal.str (g i.toNat).text, AVal.list (g i.toNat).lf (g i.toNat).ln (g i.toNat).lr,
                    AVal.list (g i.toNat).kf (g i.toNat).keys.length fun (i_1 : Nat) =>
                      [AVal.str ((g i.toNat).keys.getD i_1 [])]]))] ∧
        ([] : Heap) = [])))
  (m13 : Nat) (e_m13 : m13 = (wsV l8 l10 m7))
  (l14 : List UInt8) (e_l14 : l14 = ((Bld.mk (AVal.ptr (Oid.hp 1) 0) (bfB 3 (l8.append l10) m13)
      ((x.rows.append [[AVal.int IntKind.u8 (↑(UInt8.ofNat (Int.toNat 32)).toNat : Int)]]).append
        (List.map (fun (c : UInt8) => [AVal.int IntKind.u8 (↑c.toNat : Int)]) l10))
      m13).t))
  (l15 : List UInt8) (e_l15 : l15 = (R
    (cellsA
      (AVal.agg
        [AVal.int IntKind.i64 (g i.toNat).kind, AVal.int IntKind.i64 (g i.toNat).int, AVal.str (g i.toNat).text,
          AVal.list (g i.toNat).lf (g i.toNat).ln (g i.toNat).lr,
          AVal.list (g i.toNat).kf (g i.toNat).keys.length fun (i_1 : Nat) =>
            [AVal.str ((g i.toNat).keys.getD i_1 [])]]))))
  (m16 : Nat) (e_m16 : m16 = (l15.length))
  (m17 : Nat) (e_m17 : m17 = (wsV l14 l15 m13))
  (m18 : Nat) (e_m18 : m18 = (wsV l8 [58] m7))
  (l19 : List UInt8) (e_l19 : l19 = ((Bld.mk (AVal.ptr (Oid.hp 1) 0) (bfB 3 (l8.append [58]) m18)
      ((x.rows.append [[AVal.int IntKind.u8 (↑(UInt8.ofNat (Int.toNat 32)).toNat : Int)]]).append
        [[AVal.int IntKind.u8 58]])
      m18).t))
  (m20 : Nat) (e_m20 : m20 = (wsV l19 l15 m18))
  (m21 : Nat) (e_m21 : m21 = (wsV l1 l10 x.v))
  (l22 : List UInt8) (e_l22 : l22 = ((Bld.mk (AVal.ptr (Oid.hp 1) 0) (bfB 3 (l1.append l10) m21)
      (x.rows.append (List.map (fun (c : UInt8) => [AVal.int IntKind.u8 (↑c.toNat : Int)]) l10)) m21).t))
  (m23 : Nat) (e_m23 : m23 = (wsV l22 l15 m21))
  (m24 : Nat) (e_m24 : m24 = (wsV l1 [58] x.v))
  (l25 : List UInt8) (e_l25 : l25 = ((Bld.mk (AVal.ptr (Oid.hp 1) 0) (bfB 3 (l1.append [58]) m24) (x.rows.append [[AVal.int IntKind.u8 58]]) m24).t))
  (m26 : Nat) (e_m26 : m26 = (wsV l25 l15 m24)) : lturn Tryd.prog (layAl0 W R) (alFH Wl E1 E2) 162 1 [0,2,8,9,10] [] [] [] (stL 29 [0,2,8,9,10] [.ptr (.hp 1) 0, .func 164 [.ptr (.hp 0) 0], .list f q (fun i => encVa (g i)), .int .i64 n, .int .i64 i] [] [] (b1H.mk (.var (encVa v)) x).heap D) k = (
  bif decide (i < n) then
  bif c0 && decide (i < (↑q : Int)) then
  bif decide (i > 0) then
  bif
  tst
  ((Bld.can 1 3 (Bld.mk x.ad x.b x.rows x.v) ∧ m2 ≤ 1073741824) ∧
  SubL [AVal.ptr (Oid.hp 1) 0, AVal.int IntKind.u8 32]
  [AVal.ptr (Oid.hp 1) 0, AVal.int IntKind.u8 (↑(UInt8.ofNat (Int.toNat 32)).toNat : Int)] ∧
  (b1H.mk (Obj.var (encVa v)) x).heap =
  (b1H.mk (Obj.var (encVa v)) (Bld.mk x.ad x.b x.rows x.v)).heap) then
  bif c3 then
  bif c4 then
  bif c6 then
  bif
  tst
  ((Bld.can 1 3
  (Bld.mk (AVal.ptr (Oid.hp 1) 0) (bfB 3 (l1.append [UInt8.ofNat (Int.toNat 32)]) m7)
  (x.rows.append [[AVal.int IntKind.u8 (↑(UInt8.ofNat (Int.toNat 32)).toNat : Int)]]) m7) ∧
  m9 + m11 ≤ 1099511627776) ∧
  SubL [AVal.ptr (Oid.hp 1) 0, AVal.str l10] [AVal.ptr (Oid.hp 1) 0, AVal.str l10] ∧
  (b1H.mk (Obj.var (encVa v))
  (Bld.mk (AVal.ptr (Oid.hp 1) 0) (bfB 3 (l1.append [UInt8.ofNat (Int.toNat 32)]) m7)
  (x.rows.append [[AVal.int IntKind.u8 (↑(UInt8.ofNat (Int.toNat 32)).toNat : Int)]])
  m7)).heap =
  (b1H.mk (Obj.var (encVa v))
  (Bld.mk (AVal.ptr (Oid.hp 1) 0) (bfB 3 (l1.append [UInt8.ofNat (Int.toNat 32)]) m7)
  (x.rows.append [[AVal.int IntKind.u8 (↑(UInt8.ofNat (Int.toNat 32)).toNat : Int)]])
  m7)).heap) then
  bif c12 then
  bif
  tst
  ((Bld.can 1 3
  (Bld.mk (AVal.ptr (Oid.hp 1) 0) (bfB 3 (l8.append l10) m13)
  ((x.rows.append
  [[AVal.int IntKind.u8 (↑(UInt8.ofNat (Int.toNat 32)).toNat : Int)]]).append
  (List.map (fun (c : UInt8) => [AVal.int IntKind.u8 (↑c.toNat : Int)]) l10))
  m13) ∧
  l14.length + m16 ≤ 1099511627776) ∧
  SubL [AVal.ptr (Oid.hp 1) 0, AVal.str l15] [AVal.ptr (Oid.hp 1) 0, AVal.str l15] ∧
  (b1H.mk (Obj.var (encVa v))
  (Bld.mk (AVal.ptr (Oid.hp 1) 0) (bfB 3 (l8.append l10) m13)
  ((x.rows.append
  [[AVal.int IntKind.u8 (↑(UInt8.ofNat (Int.toNat 32)).toNat : Int)]]).append
  (List.map (fun (c : UInt8) => [AVal.int IntKind.u8 (↑c.toNat : Int)]) l10))
  m13)).heap =
  (b1H.mk (Obj.var (encVa v))
  (Bld.mk (AVal.ptr (Oid.hp 1) 0) (bfB 3 (l8.append l10) m13)
  ((x.rows.append
  [[AVal.int IntKind.u8 (↑(UInt8.ofNat (Int.toNat 32)).toNat : Int)]]).append
  (List.map (fun (c : UInt8) => [AVal.int IntKind.u8 (↑c.toNat : Int)]) l10))
  m13)).heap) then
  k AExit.normal
  (stL 29 [0, 2, 8, 9, 10]
  [AVal.ptr (Oid.hp 1) 0, AVal.func 164 [AVal.ptr (Oid.hp 0) 0],
  AVal.list f q fun (i : Nat) => encVa (g i), AVal.int IntKind.i64 n,
  AVal.int IntKind.i64 (IntKind.i64.wrap (i + 1))]
  [] []
  (b1H.mk (Obj.var (encVa v))
  (Bld.mk (AVal.ptr (Oid.hp 1) 0) (bfB 3 (l14.append l15) m17)
  (((x.rows.append
  [[AVal.int IntKind.u8 (↑(UInt8.ofNat (Int.toNat 32)).toNat : Int)]]).append
  (List.map (fun (c : UInt8) => [AVal.int IntKind.u8 (↑c.toNat : Int)]) l10)).append
  (List.map (fun (c : UInt8) => [AVal.int IntKind.u8 (↑c.toNat : Int)]) l15))
  m17)).heap
  D)
  else none
  else none
  else none
  else none
  else none
  else
  bif
  tst
  ((Bld.can 1 3
  (Bld.mk (AVal.ptr (Oid.hp 1) 0) (bfB 3 (l1.append [UInt8.ofNat (Int.toNat 32)]) m7)
  (x.rows.append [[AVal.int IntKind.u8 (↑(UInt8.ofNat (Int.toNat 32)).toNat : Int)]]) m7) ∧
  m9 + 1 ≤ 1099511627776) ∧
  SubL [AVal.ptr (Oid.hp 1) 0, AVal.str [58]] [AVal.ptr (Oid.hp 1) 0, AVal.str [58]] ∧
  (b1H.mk (Obj.var (encVa v))
  (Bld.mk (AVal.ptr (Oid.hp 1) 0) (bfB 3 (l1.append [UInt8.ofNat (Int.toNat 32)]) m7)
  (x.rows.append [[AVal.int IntKind.u8 (↑(UInt8.ofNat (Int.toNat 32)).toNat : Int)]])
  m7)).heap =
  (b1H.mk (Obj.var (encVa v))
  (Bld.mk (AVal.ptr (Oid.hp 1) 0) (bfB 3 (l1.append [UInt8.ofNat (Int.toNat 32)]) m7)
  (x.rows.append [[AVal.int IntKind.u8 (↑(UInt8.ofNat (Int.toNat 32)).toNat : Int)]])
  m7)).heap) then
  bif c12 then
  bif
  tst
  ((Bld.can 1 3
  (Bld.mk (AVal.ptr (Oid.hp 1) 0) (bfB 3 (l8.append [58]) m18)
  ((x.rows.append [[AVal.int IntKind.u8 (↑(UInt8.ofNat (Int.toNat 32)).toNat : Int)]]).append
  [[AVal.int IntKind.u8 58]])
  m18) ∧
  l19.length + m16 ≤ 1099511627776) ∧
  SubL [AVal.ptr (Oid.hp 1) 0, AVal.str l15] [AVal.ptr (Oid.hp 1) 0, AVal.str l15] ∧
  (b1H.mk (Obj.var (encVa v))
  (Bld.mk (AVal.ptr (Oid.hp 1) 0) (bfB 3 (l8.append [58]) m18)
  ((x.rows.append
  [[AVal.int IntKind.u8 (↑(UInt8.ofNat (Int.toNat 32)).toNat : Int)]]).append
  [[AVal.int IntKind.u8 58]])
  m18)).heap =
  (b1H.mk (Obj.var (encVa v))
  (Bld.mk (AVal.ptr (Oid.hp 1) 0) (bfB 3 (l8.append [58]) m18)
  ((x.rows.append
  [[AVal.int IntKind.u8 (↑(UInt8.ofNat (Int.toNat 32)).toNat : Int)]]).append
  [[AVal.int IntKind.u8 58]])
  m18)).heap) then
  k AExit.normal
  (stL 29 [0, 2, 8, 9, 10]
  [AVal.ptr (Oid.hp 1) 0, AVal.func 164 [AVal.ptr (Oid.hp 0) 0],
  AVal.list f q fun (i : Nat) => encVa (g i), AVal.int IntKind.i64 n,
  AVal.int IntKind.i64 (IntKind.i64.wrap (i + 1))]
  [] []
  (b1H.mk (Obj.var (encVa v))
  (Bld.mk (AVal.ptr (Oid.hp 1) 0) (bfB 3 (l19.append l15) m20)
  (((x.rows.append [[AVal.int IntKind.u8 (↑(UInt8.ofNat (Int.toNat 32)).toNat : Int)]]).append
  [[AVal.int IntKind.u8 58]]).append
  (List.map (fun (c : UInt8) => [AVal.int IntKind.u8 (↑c.toNat : Int)]) l15))
  m20)).heap
  D)
  else none
  else none
  else none
  else none
  else
  bif c3 then
  bif c4 then
  bif c6 then
  bif
  tst
  ((Bld.can 1 3 (Bld.mk x.ad x.b x.rows x.v) ∧ m2 + m11 ≤ 1099511627776) ∧
  SubL [AVal.ptr (Oid.hp 1) 0, AVal.str l10] [AVal.ptr (Oid.hp 1) 0, AVal.str l10] ∧
  (b1H.mk (Obj.var (encVa v)) x).heap =
  (b1H.mk (Obj.var (encVa v)) (Bld.mk x.ad x.b x.rows x.v)).heap) then
  bif c12 then
  bif
  tst
  ((Bld.can 1 3
  (Bld.mk (AVal.ptr (Oid.hp 1) 0) (bfB 3 (l1.append l10) m21)
  (x.rows.append (List.map (fun (c : UInt8) => [AVal.int IntKind.u8 (↑c.toNat : Int)]) l10))
  m21) ∧
  l22.length + m16 ≤ 1099511627776) ∧
  SubL [AVal.ptr (Oid.hp 1) 0, AVal.str l15] [AVal.ptr (Oid.hp 1) 0, AVal.str l15] ∧
  (b1H.mk (Obj.var (encVa v))
  (Bld.mk (AVal.ptr (Oid.hp 1) 0) (bfB 3 (l1.append l10) m21)
  (x.rows.append
  (List.map (fun (c : UInt8) => [AVal.int IntKind.u8 (↑c.toNat : Int)]) l10))
  m21)).heap =
  (b1H.mk (Obj.var (encVa v))
  (Bld.mk (AVal.ptr (Oid.hp 1) 0) (bfB 3 (l1.append l10) m21)
  (x.rows.append
  (List.map (fun (c : UInt8) => [AVal.int IntKind.u8 (↑c.toNat : Int)]) l10))
  m21)).heap) then
  k AExit.normal
  (stL 29 [0, 2, 8, 9, 10]
  [AVal.ptr (Oid.hp 1) 0, AVal.func 164 [AVal.ptr (Oid.hp 0) 0],
  AVal.list f q fun (i : Nat) => encVa (g i), AVal.int IntKind.i64 n,
  AVal.int IntKind.i64 (IntKind.i64.wrap (i + 1))]
  [] []
  (b1H.mk (Obj.var (encVa v))
  (Bld.mk (AVal.ptr (Oid.hp 1) 0) (bfB 3 (l22.append l15) m23)
  ((x.rows.append
  (List.map (fun (c : UInt8) => [AVal.int IntKind.u8 (↑c.toNat : Int)]) l10)).append
  (List.map (fun (c : UInt8) => [AVal.int IntKind.u8 (↑c.toNat : Int)]) l15))
  m23)).heap
  D)
  else none
  else none
  else none
  else none
  else none
  else
  bif
  tst
  ((Bld.can 1 3 (Bld.mk x.ad x.b x.rows x.v) ∧ m2 + 1 ≤ 1099511627776) ∧
  SubL [AVal.ptr (Oid.hp 1) 0, AVal.str [58]] [AVal.ptr (Oid.hp 1) 0, AVal.str [58]] ∧
  (b1H.mk (Obj.var (encVa v)) x).heap =
  (b1H.mk (Obj.var (encVa v)) (Bld.mk x.ad x.b x.rows x.v)).heap) then
  bif c12 then
  bif
  tst
  ((Bld.can 1 3
  (Bld.mk (AVal.ptr (Oid.hp 1) 0) (bfB 3 (l1.append [58]) m24)
  (x.rows.append [[AVal.int IntKind.u8 58]]) m24) ∧
  l25.length + m16 ≤ 1099511627776) ∧
  SubL [AVal.ptr (Oid.hp 1) 0, AVal.str l15] [AVal.ptr (Oid.hp 1) 0, AVal.str l15] ∧
  (b1H.mk (Obj.var (encVa v))
  (Bld.mk (AVal.ptr (Oid.hp 1) 0) (bfB 3 (l1.append [58]) m24)
  (x.rows.append [[AVal.int IntKind.u8 58]]) m24)).heap =
  (b1H.mk (Obj.var (encVa v))
  (Bld.mk (AVal.ptr (Oid.hp 1) 0) (bfB 3 (l1.append [58]) m24)
  (x.rows.append [[AVal.int IntKind.u8 58]]) m24)).heap) then
  k AExit.normal
  (stL 29 [0, 2, 8, 9, 10]
  [AVal.ptr (Oid.hp 1) 0, AVal.func 164 [AVal.ptr (Oid.hp 0) 0],
  AVal.list f q fun (i : Nat) => encVa (g i), AVal.int IntKind.i64 n,
  AVal.int IntKind.i64 (IntKind.i64.wrap (i + 1))]
  [] []
  (b1H.mk (Obj.var (encVa v))
  (Bld.mk (AVal.ptr (Oid.hp 1) 0) (bfB 3 (l25.append l15) m26)
  ((x.rows.append [[AVal.int IntKind.u8 58]]).append
  (List.map (fun (c : UInt8) => [AVal.int IntKind.u8 (↑c.toNat : Int)]) l15))
  m26)).heap
  D)
  else none
  else none
  else none
  else none
  else k (AExit.exit 0) (stL 29 [] [] [] [] (b1H.mk (Obj.var (encVa v)) x).heap D)) := by
  subst e_c0 e_l1 e_m2 e_c3 e_c4 e_l5 e_c6 e_m7 e_l8 e_m9 e_l10 e_m11 e_c12 e_m13 e_l14 e_l15 e_m16 e_m17 e_m18 e_l19 e_m20 e_m21 e_l22 e_m23 e_m24 e_l25 e_m26
  kernel_rfl
noncomputable def layAl (W : List AVal → Prop) (R : List AVal → List UInt8) (Wl : AVal → Prop) (E1 : AlE1) (E2 : AlE2) : Lay := ((layAl0 W R).addL 162 (alFH Wl E1 E2)).addL 103 { heap := [1, 3], typed := [(3, [(0, bT)])], exact := true }
theorem prv_k0 (W : List AVal → Prop) (R : List AVal → List UInt8) (Wl : AVal → Prop) (E1 : AlE1) (E2 : AlE2) (n : Int) (t : List UInt8) (lf : Bool) (ln : Nat) (lr : Nat → List AVal) (kf : Bool) (ks : List (List UInt8)) (k : Out → Ans) : iFun Tryd.prog ((layAl W R Wl E1 E2).hd Tryd.prog) (layAl W R Wl E1 E2).fhs 0 103 [.agg (encVa ⟨0, n, t, lf, ln, lr, kf, ks⟩)] [] k = (
  k
  (Out.ret (AVal.str [110, 117, 108, 108])
  [Obj.var (encVa (VaD.mk 0 n t lf ln lr kf ks)), Obj.var [AVal.nilptr, AVal.nilX], Obj.note 98 2, Obj.arr 1 [] 0,
        Obj.note 5 0])) := by kernel_rfl
theorem prv_k1 (W : List AVal → Prop) (R : List AVal → List UInt8) (Wl : AVal → Prop) (E1 : AlE1) (E2 : AlE2) (n : Int) (t : List UInt8) (lf : Bool) (ln : Nat) (lr : Nat → List AVal) (kf : Bool) (ks : List (List UInt8)) (k : Out → Ans) : iFun Tryd.prog ((layAl W R Wl E1 E2).hd Tryd.prog) (layAl W R Wl E1 E2).fhs 0 103 [.agg (encVa ⟨1, n, t, lf, ln, lr, kf, ks⟩)] [] k = (
  k
  (Out.ret (AVal.str [102, 97, 108, 115, 101])
  [Obj.var (encVa (VaD.mk 1 n t lf ln lr kf ks)), Obj.var [AVal.nilptr, AVal.nilX], Obj.note 98 2, Obj.arr 1 [] 0,
        Obj.note 5 0])) := by kernel_rfl
theorem prv_k2 (W : List AVal → Prop) (R : List AVal → List UInt8) (Wl : AVal → Prop) (E1 : AlE1) (E2 : AlE2) (n : Int) (t : List UInt8) (lf : Bool) (ln : Nat) (lr : Nat → List AVal) (kf : Bool) (ks : List (List UInt8)) (k : Out → Ans) : iFun Tryd.prog ((layAl W R Wl E1 E2).hd Tryd.prog) (layAl W R Wl E1 E2).fhs 0 103 [.agg (encVa ⟨2, n, t, lf, ln, lr, kf, ks⟩)] [] k = (
  k
  (Out.ret (AVal.str [116, 114, 117, 101])
  [Obj.var (encVa (VaD.mk 2 n t lf ln lr kf ks)), Obj.var [AVal.nilptr, AVal.nilX], Obj.note 98 2, Obj.arr 1 [] 0,
        Obj.note 5 0])) := by kernel_rfl
theorem prv_k3 (W : List AVal → Prop) (R : List AVal → List UInt8) (Wl : AVal → Prop) (E1 : AlE1) (E2 : AlE2) (n : Int) (t : List UInt8) (lf : Bool) (ln : Nat) (lr : Nat → List AVal) (kf : Bool) (ks : List (List UInt8)) (k : Out → Ans) : iFun Tryd.prog ((layAl W R Wl E1 E2).hd Tryd.prog) (layAl W R Wl E1 E2).fhs 0 103 [.agg (encVa ⟨3, n, t, lf, ln, lr, kf, ks⟩)] [] k = (
  bif decide (-9223372036854775808 ≤ n ∧ n ≤ 9223372036854775807) then
  k
  (Out.ret (AVal.str (printM n))
  [Obj.var (encVa (VaD.mk 3 n t lf ln lr kf ks)), Obj.var [AVal.nilptr, AVal.nilX], Obj.note 98 2, Obj.arr 1 [] 0,
  Obj.note 5 0])
  else none) := by kernel_rfl
theorem prv_k4 (W : List AVal → Prop) (R : List AVal → List UInt8) (Wl : AVal → Prop) (E1 : AlE1) (E2 : AlE2) (n : Int) (t : List UInt8) (lf : Bool) (ln : Nat) (lr : Nat → List AVal) (kf : Bool) (ks : List (List UInt8)) (k : Out → Ans) : iFun Tryd.prog ((layAl W R Wl E1 E2).hd Tryd.prog) (layAl W R Wl E1 E2).fhs 0 103 [.agg (encVa ⟨4, n, t, lf, ln, lr, kf, ks⟩)] [] k = (
  k
  (Out.ret (AVal.str t)
  [Obj.var (encVa (VaD.mk 4 n t lf ln lr kf ks)), Obj.var [AVal.nilptr, AVal.nilX], Obj.note 98 2, Obj.arr 1 [] 0,
        Obj.note 5 0])) := by kernel_rfl
theorem prv_k5 (W : List AVal → Prop) (R : List AVal → List UInt8) (Wl : AVal → Prop) (E1 : AlE1) (E2 : AlE2) (n : Int) (t : List UInt8) (lf : Bool) (ln : Nat) (lr : Nat → List AVal) (kf : Bool) (ks : List (List UInt8)) (k : Out → Ans) (m0 : Nat) (e_m0 : m0 = ((E1 (AVal.list lf ln lr)
      (Bld.mk (AVal.ptr (Oid.hp 1) 0)
        (AVal.own 3 0 1 (wsV (Bld.mk AVal.nilptr AVal.nilX [] 0).t [UInt8.ofNat (Int.toNat 91)] 0) false)
        [[AVal.int IntKind.u8 (↑(UInt8.ofNat (Int.toNat 91)).toNat : Int)]]
        (wsV (Bld.mk AVal.nilptr AVal.nilX [] 0).t [UInt8.ofNat (Int.toNat 91)] 0))).v))
  (l1 : List UInt8) (e_l1 : l1 = ((Bld.mk
      (E1 (AVal.list lf ln lr)
          (Bld.mk (AVal.ptr (Oid.hp 1) 0)
            (AVal.own 3 0 1 (wsV (Bld.mk AVal.nilptr AVal.nilX [] 0).t [UInt8.ofNat (Int.toNat 91)] 0) false)
            [[AVal.int IntKind.u8 (↑(UInt8.ofNat (Int.toNat 91)).toNat : Int)]]
            (wsV (Bld.mk AVal.nilptr AVal.nilX [] 0).t [UInt8.ofNat (Int.toNat 91)] 0))).ad
      (E1 (AVal.list lf ln lr)
          (Bld.mk (AVal.ptr (Oid.hp 1) 0)
            (AVal.own 3 0 1 (wsV (Bld.mk AVal.nilptr AVal.nilX [] 0).t [UInt8.ofNat (Int.toNat 91)] 0) false)
            [[AVal.int IntKind.u8 (↑(UInt8.ofNat (Int.toNat 91)).toNat : Int)]]
            (wsV (Bld.mk AVal.nilptr AVal.nilX [] 0).t [UInt8.ofNat (Int.toNat 91)] 0))).b
      (E1 (AVal.list lf ln lr)
          (Bld.mk (AVal.ptr (Oid.hp 1) 0)
            (AVal.own 3 0 1 (wsV (Bld.mk AVal.nilptr AVal.nilX [] 0).t [UInt8.ofNat (Int.toNat 91)] 0) false)
            [[AVal.int IntKind.u8 (↑(UInt8.ofNat (Int.toNat 91)).toNat : Int)]]
            (wsV (Bld.mk AVal.nilptr AVal.nilX [] 0).t [UInt8.ofNat (Int.toNat 91)] 0))).rows
      m0).t))
  (m2 : Nat) (e_m2 : m2 = (wsV l1 [UInt8.ofNat (Int.toNat 93)] m0))
  (l3 : List UInt8) (e_l3 : l3 = ((Bld.mk (AVal.ptr (Oid.hp 1) 0) (bfB 3 (l1.append [UInt8.ofNat (Int.toNat 93)]) m2)
      ((E1 (AVal.list lf ln lr)
              (Bld.mk (AVal.ptr (Oid.hp 1) 0)
                (AVal.own 3 0 1 (wsV (Bld.mk AVal.nilptr AVal.nilX [] 0).t [UInt8.ofNat (Int.toNat 91)] 0) false)
                [[AVal.int IntKind.u8 (↑(UInt8.ofNat (Int.toNat 91)).toNat : Int)]]
                (wsV (Bld.mk AVal.nilptr AVal.nilX [] 0).t [UInt8.ofNat (Int.toNat 91)] 0))).rows.append
        [[AVal.int IntKind.u8 (↑(UInt8.ofNat (Int.toNat 93)).toNat : Int)]])
      m2).t)) : iFun Tryd.prog ((layAl W R Wl E1 E2).hd Tryd.prog) (layAl W R Wl E1 E2).fhs 0 103 [.agg (encVa ⟨5, n, t, lf, ln, lr, kf, ks⟩)] [] k = (
  bif
      tst
        ((Bld.can 1 3 (Bld.mk AVal.nilptr AVal.nilX [] 0) ∧ 0 ≤ 1073741824) ∧
          SubL [AVal.ptr (Oid.hp 1) 0, AVal.int IntKind.u8 91]
              [AVal.ptr (Oid.hp 1) 0, AVal.int IntKind.u8 (↑(UInt8.ofNat (Int.toNat 91)).toNat : Int)] ∧
            [Obj.var (encVa (VaD.mk 5 n t lf ln lr kf ks)), Obj.var [AVal.nilptr, AVal.nilX], Obj.note 98 2,
                Obj.arr 1 [] 0, Obj.note 5 0] =
              (b1H.mk (Obj.var (encVa (VaD.mk 5 n t lf ln lr kf ks))) (Bld.mk AVal.nilptr AVal.nilX [] 0)).heap) then
    bif
        tst
          (alOk Wl
              (b1H.mk (Obj.var (encVa (VaD.mk 5 n t lf ln lr kf ks)))
                (Bld.mk (AVal.ptr (Oid.hp 1) 0)
                  (AVal.own 3 0 1 (wsV (Bld.mk AVal.nilptr AVal.nilX [] 0).t [UInt8.ofNat (Int.toNat 91)] 0) false)
                  [[AVal.int IntKind.u8 (↑(UInt8.ofNat (Int.toNat 91)).toNat : Int)]]
                  (wsV (Bld.mk AVal.nilptr AVal.nilX [] 0).t [UInt8.ofNat (Int.toNat 91)] 0)))
              (AVal.func 163 []) (AVal.list lf ln lr) ∧
            SubTL
                [AVal.ptr (Oid.hp 1) 0, AVal.func 163 [], AVal.list lf ln lr, AVal.int IntKind.i64 (↑ln : Int),
                  AVal.int IntKind.i64 0]
                [AVal.ptr (Oid.hp 1) 0, AVal.func 163 [], canV (AVal.list lf ln lr),
                  AVal.int IntKind.i64 (↑(lnV (AVal.list lf ln lr)) : Int), AVal.int IntKind.i64 0] ∧
              ([] : List (List AVal)) = [] ∧
                (b1H.mk (Obj.var (encVa (VaD.mk 5 n t lf ln lr kf ks)))
                      (Bld.mk (AVal.ptr (Oid.hp 1) 0)
                        (bfB 3 [UInt8.ofNat (Int.toNat 91)]
                          (wsV (Bld.mk AVal.nilptr AVal.nilX [] 0).t [UInt8.ofNat (Int.toNat 91)] 0))
                        [[AVal.int IntKind.u8 (↑(UInt8.ofNat (Int.toNat 91)).toNat : Int)]]
                        (wsV (Bld.mk AVal.nilptr AVal.nilX [] 0).t [UInt8.ofNat (Int.toNat 91)] 0))).heap =
                  (b1H.mk (Obj.var (encVa (VaD.mk 5 n t lf ln lr kf ks)))
                      (Bld.mk (AVal.ptr (Oid.hp 1) 0)
                        (AVal.own 3 0 1 (wsV (Bld.mk AVal.nilptr AVal.nilX [] 0).t [UInt8.ofNat (Int.toNat 91)] 0) false)
                        [[AVal.int IntKind.u8 (↑(UInt8.ofNat (Int.toNat 91)).toNat : Int)]]
                        (wsV (Bld.mk AVal.nilptr AVal.nilX [] 0).t [UInt8.ofNat (Int.toNat 91)] 0))).heap) then
      bif
          tst
            ((Bld.can 1 3
                  (Bld.mk
                    (E1 (AVal.list lf ln lr)
                        (Bld.mk (AVal.ptr (Oid.hp 1) 0)
                          (AVal.own 3 0 1 (wsV (Bld.mk AVal.nilptr AVal.nilX [] 0).t [UInt8.ofNat (Int.toNat 91)] 0)
                            false)
                          [[AVal.int IntKind.u8 (↑(UInt8.ofNat (Int.toNat 91)).toNat : Int)]]
                          (wsV (Bld.mk AVal.nilptr AVal.nilX [] 0).t [UInt8.ofNat (Int.toNat 91)] 0))).ad
                    (E1 (AVal.list lf ln lr)
                        (Bld.mk (AVal.ptr (Oid.hp 1) 0)
                          (AVal.own 3 0 1 (wsV (Bld.mk AVal.nilptr AVal.nilX [] 0).t [UInt8.ofNat (Int.toNat 91)] 0)
                            false)
                          [[AVal.int IntKind.u8 (↑(UInt8.ofNat (Int.toNat 91)).toNat : Int)]]
                          (wsV (Bld.mk AVal.nilptr AVal.nilX [] 0).t [UInt8.ofNat (Int.toNat 91)] 0))).b
                    (E1 (AVal.list lf ln lr)
                        (Bld.mk (AVal.ptr (Oid.hp 1) 0)
                          (AVal.own 3 0 1 (wsV (Bld.mk AVal.nilptr AVal.nilX [] 0).t [UInt8.ofNat (Int.toNat 91)] 0)
                            false)
                          [[AVal.int IntKind.u8 (↑(UInt8.ofNat (Int.toNat 91)).toNat : Int)]]
                          (wsV (Bld.mk AVal.nilptr AVal.nilX [] 0).t [UInt8.ofNat (Int.toNat 91)] 0))).rows
                    m0) ∧
                l1.length ≤ 1073741824) ∧
              SubL [AVal.ptr (Oid.hp 1) 0, AVal.int IntKind.u8 93]
                  [AVal.ptr (Oid.hp 1) 0, AVal.int IntKind.u8 (↑(UInt8.ofNat (Int.toNat 93)).toNat : Int)] ∧
                (b1H.mk (Obj.var (encVa (VaD.mk 5 n t lf ln lr kf ks)))
                      (E1 (AVal.list lf ln lr)
                        (Bld.mk (AVal.ptr (Oid.hp 1) 0)
                          (AVal.own 3 0 1 (wsV (Bld.mk AVal.nilptr AVal.nilX [] 0).t [UInt8.ofNat (Int.toNat 91)] 0)
                            false)
                          [[AVal.int IntKind.u8 (↑(UInt8.ofNat (Int.toNat 91)).toNat : Int)]]
                          (wsV (Bld.mk AVal.nilptr AVal.nilX [] 0).t [UInt8.ofNat (Int.toNat 91)] 0)))).heap =
                  (b1H.mk (Obj.var (encVa (VaD.mk 5 n t lf ln lr kf ks)))
                      (Bld.mk
                        (E1 (AVal.list lf ln lr)
                            (Bld.mk (AVal.ptr (Oid.hp 1) 0)
                              (AVal.own 3 0 1 (wsV (Bld.mk AVal.nilptr AVal.nilX [] 0).t [UInt8.ofNat (Int.toNat 91)] 0)
                                false)
                              [[AVal.int IntKind.u8 (↑(UInt8.ofNat (Int.toNat 91)).toNat : Int)]]
                              (wsV (Bld.mk AVal.nilptr AVal.nilX [] 0).t [UInt8.ofNat (Int.toNat 91)] 0))).ad
                        (E1 (AVal.list lf ln lr)
                            (Bld.mk (AVal.ptr (Oid.hp 1) 0)
                              (AVal.own 3 0 1 (wsV (Bld.mk AVal.nilptr AVal.nilX [] 0).t [UInt8.ofNat (Int.toNat 91)] 0)
                                false)
                              [[AVal.int IntKind.u8 (↑(UInt8.ofNat (Int.toNat 91)).toNat : Int)]]
                              (wsV (Bld.mk AVal.nilptr AVal.nilX [] 0).t [UInt8.ofNat (Int.toNat 91)] 0))).b
                        (E1 (AVal.list lf ln lr)
                            (Bld.mk (AVal.ptr (Oid.hp 1) 0)
                              (AVal.own 3 0 1 (wsV (Bld.mk AVal.nilptr AVal.nilX [] 0).t [UInt8.ofNat (Int.toNat 91)] 0)
                                false)
                              [[AVal.int IntKind.u8 (↑(UInt8.ofNat (Int.toNat 91)).toNat : Int)]]
                              (wsV (Bld.mk AVal.nilptr AVal.nilX [] 0).t [UInt8.ofNat (Int.toNat 91)] 0))).rows
                        m0)).heap) then
        bif
            tst
              ((Bld.can 1 3
                    (Bld.mk (AVal.ptr (Oid.hp 1) 0) (bfB 3 (l1.append [UInt8.ofNat (Int.toNat 93)]) m2)
                      ((E1 (AVal.list lf ln lr)
                              (Bld.mk (AVal.ptr (Oid.hp 1) 0)
                                (AVal.own 3 0 1 (wsV (Bld.mk AVal.nilptr AVal.nilX [] 0).t [UInt8.ofNat (Int.toNat 91)] 0)
                                  false)
                                [[AVal.int IntKind.u8 (↑(UInt8.ofNat (Int.toNat 91)).toNat : Int)]]
                                (wsV (Bld.mk AVal.nilptr AVal.nilX [] 0).t [UInt8.ofNat (Int.toNat 91)] 0))).rows.append
                        [[AVal.int IntKind.u8 (↑(UInt8.ofNat (Int.toNat 93)).toNat : Int)]])
                      m2) ∧
                  l3.length ≤ 1099511627776) ∧
                SubL [AVal.ptr (Oid.hp 1) 0] [AVal.ptr (Oid.hp 1) 0] ∧
                  (b1H.mk (Obj.var (encVa (VaD.mk 5 n t lf ln lr kf ks)))
                        (Bld.mk (AVal.ptr (Oid.hp 1) 0) (bfB 3 (l1.append [UInt8.ofNat (Int.toNat 93)]) m2)
                          ((E1 (AVal.list lf ln lr)
                                  (Bld.mk (AVal.ptr (Oid.hp 1) 0)
                                    (AVal.own 3 0 1
                                      (wsV (Bld.mk AVal.nilptr AVal.nilX [] 0).t [UInt8.ofNat (Int.toNat 91)] 0) false)
                                    [[AVal.int IntKind.u8 (↑(UInt8.ofNat (Int.toNat 91)).toNat : Int)]]
                                    (wsV (Bld.mk AVal.nilptr AVal.nilX [] 0).t [UInt8.ofNat (Int.toNat 91)]
                                      0))).rows.append
                            [[AVal.int IntKind.u8 (↑(UInt8.ofNat (Int.toNat 93)).toNat : Int)]])
                          m2)).heap =
                    (b1H.mk (Obj.var (encVa (VaD.mk 5 n t lf ln lr kf ks)))
                        (Bld.mk (AVal.ptr (Oid.hp 1) 0) (bfB 3 (l1.append [UInt8.ofNat (Int.toNat 93)]) m2)
                          ((E1 (AVal.list lf ln lr)
                                  (Bld.mk (AVal.ptr (Oid.hp 1) 0)
                                    (AVal.own 3 0 1
                                      (wsV (Bld.mk AVal.nilptr AVal.nilX [] 0).t [UInt8.ofNat (Int.toNat 91)] 0) false)
                                    [[AVal.int IntKind.u8 (↑(UInt8.ofNat (Int.toNat 91)).toNat : Int)]]
                                    (wsV (Bld.mk AVal.nilptr AVal.nilX [] 0).t [UInt8.ofNat (Int.toNat 91)]
                                      0))).rows.append
                            [[AVal.int IntKind.u8 (↑(UInt8.ofNat (Int.toNat 93)).toNat : Int)]])
                          m2)).heap) then
          k
            (Out.ret (AVal.str l3)
              (b1H.mk (Obj.var (encVa (VaD.mk 5 n t lf ln lr kf ks)))
                  (Bld.mk (AVal.ptr (Oid.hp 1) 0) (bfB 3 (l1.append [UInt8.ofNat (Int.toNat 93)]) m2) []
                    (bif l3 == [] then m2 else m2 + 1))).heap)
        else none
      else none
    else none
  else none) := by
  subst e_m0 e_l1 e_m2 e_l3
  kernel_rfl
theorem prv_k6 (W : List AVal → Prop) (R : List AVal → List UInt8) (Wl : AVal → Prop) (E1 : AlE1) (E2 : AlE2) (n : Int) (t : List UInt8) (lf : Bool) (ln : Nat) (lr : Nat → List AVal) (kf : Bool) (ks : List (List UInt8)) (k : Out → Ans) (m0 : Nat) (e_m0 : m0 = ((E2
      [AVal.int IntKind.i64 6, AVal.int IntKind.i64 n, AVal.str t, AVal.list lf ln lr,
        AVal.list kf ks.length fun (i : Nat) => [AVal.str (ks.getD i [])]]
      (AVal.list lf ln lr)
      (Bld.mk (AVal.ptr (Oid.hp 1) 0)
        (AVal.own 3 0 1 (wsV (Bld.mk AVal.nilptr AVal.nilX [] 0).t [UInt8.ofNat (Int.toNat 123)] 0) false)
        [[AVal.int IntKind.u8 (↑(UInt8.ofNat (Int.toNat 123)).toNat : Int)]]
        (wsV (Bld.mk AVal.nilptr AVal.nilX [] 0).t [UInt8.ofNat (Int.toNat 123)] 0))).v))
  (l1 : List UInt8) (e_l1 : l1 = ((Bld.mk
      (E2
          [AVal.int IntKind.i64 6, AVal.int IntKind.i64 n, AVal.str t, AVal.list lf ln lr,
            AVal.list kf ks.length fun (i : Nat) => [AVal.str (ks.getD i [])]]
          (AVal.list lf ln lr)
          (Bld.mk (AVal.ptr (Oid.hp 1) 0)
            (AVal.own 3 0 1 (wsV (Bld.mk AVal.nilptr AVal.nilX [] 0).t [UInt8.ofNat (Int.toNat 123)] 0) false)
            [[AVal.int IntKind.u8 (↑(UInt8.ofNat (Int.toNat 123)).toNat : Int)]]
            (wsV (Bld.mk AVal.nilptr AVal.nilX [] 0).t [UInt8.ofNat (Int.toNat 123)] 0))).ad
      (E2
          [AVal.int IntKind.i64 6, AVal.int IntKind.i64 n, AVal.str t, AVal.list lf ln lr,
            AVal.list kf ks.length fun (i : Nat) => [AVal.str (ks.getD i [])]]
          (AVal.list lf ln lr)
          (Bld.mk (AVal.ptr (Oid.hp 1) 0)
            (AVal.own 3 0 1 (wsV (Bld.mk AVal.nilptr AVal.nilX [] 0).t [UInt8.ofNat (Int.toNat 123)] 0) false)
            [[AVal.int IntKind.u8 (↑(UInt8.ofNat (Int.toNat 123)).toNat : Int)]]
            (wsV (Bld.mk AVal.nilptr AVal.nilX [] 0).t [UInt8.ofNat (Int.toNat 123)] 0))).b
      (E2
          [AVal.int IntKind.i64 6, AVal.int IntKind.i64 n, AVal.str t, AVal.list lf ln lr,
            AVal.list kf ks.length fun (i : Nat) => [AVal.str (ks.getD i [])]]
          (AVal.list lf ln lr)
          (Bld.mk (AVal.ptr (Oid.hp 1) 0)
            (AVal.own 3 0 1 (wsV (Bld.mk AVal.nilptr AVal.nilX [] 0).t [UInt8.ofNat (Int.toNat 123)] 0) false)
            [[AVal.int IntKind.u8 (↑(UInt8.ofNat (Int.toNat 123)).toNat : Int)]]
            (wsV (Bld.mk AVal.nilptr AVal.nilX [] 0).t [UInt8.ofNat (Int.toNat 123)] 0))).rows
      m0).t))
  (m2 : Nat) (e_m2 : m2 = (wsV l1 [UInt8.ofNat (Int.toNat 125)] m0))
  (l3 : List UInt8) (e_l3 : l3 = ((Bld.mk (AVal.ptr (Oid.hp 1) 0) (bfB 3 (l1.append [UInt8.ofNat (Int.toNat 125)]) m2)
      ((E2
              [AVal.int IntKind.i64 6, AVal.int IntKind.i64 n, AVal.str t, AVal.list lf ln lr,
                AVal.list kf ks.length fun (i : Nat) => [AVal.str (ks.getD i [])]]
              (AVal.list lf ln lr)
              (Bld.mk (AVal.ptr (Oid.hp 1) 0)
                (AVal.own 3 0 1 (wsV (Bld.mk AVal.nilptr AVal.nilX [] 0).t [UInt8.ofNat (Int.toNat 123)] 0) false)
                [[AVal.int IntKind.u8 (↑(UInt8.ofNat (Int.toNat 123)).toNat : Int)]]
                (wsV (Bld.mk AVal.nilptr AVal.nilX [] 0).t [UInt8.ofNat (Int.toNat 123)] 0))).rows.append
        [[AVal.int IntKind.u8 (↑(UInt8.ofNat (Int.toNat 125)).toNat : Int)]])
      m2).t)) : iFun Tryd.prog ((layAl W R Wl E1 E2).hd Tryd.prog) (layAl W R Wl E1 E2).fhs 0 103 [.agg (encVa ⟨6, n, t, lf, ln, lr, kf, ks⟩)] [] k = (
  bif
      tst
        ((Bld.can 1 3 (Bld.mk AVal.nilptr AVal.nilX [] 0) ∧ 0 ≤ 1073741824) ∧
          SubL [AVal.ptr (Oid.hp 1) 0, AVal.int IntKind.u8 123]
              [AVal.ptr (Oid.hp 1) 0, AVal.int IntKind.u8 (↑(UInt8.ofNat (Int.toNat 123)).toNat : Int)] ∧
            [Obj.var (encVa (VaD.mk 6 n t lf ln lr kf ks)), Obj.var [AVal.nilptr, AVal.nilX], Obj.note 98 2,
                Obj.arr 1 [] 0, Obj.note 5 0] =
              (b1H.mk (Obj.var (encVa (VaD.mk 6 n t lf ln lr kf ks))) (Bld.mk AVal.nilptr AVal.nilX [] 0)).heap) then
    bif
        tst
          (alOk Wl
              (b1H.mk (Obj.var (encVa (VaD.mk 6 n t lf ln lr kf ks)))
                (Bld.mk (AVal.ptr (Oid.hp 1) 0)
                  (AVal.own 3 0 1 (wsV (Bld.mk AVal.nilptr AVal.nilX [] 0).t [UInt8.ofNat (Int.toNat 123)] 0) false)
                  [[AVal.int IntKind.u8 (↑(UInt8.ofNat (Int.toNat 123)).toNat : Int)]]
                  (wsV (Bld.mk AVal.nilptr AVal.nilX [] 0).t [UInt8.ofNat (Int.toNat 123)] 0)))
              (AVal.func 164 [AVal.ptr (Oid.hp 0) 0]) (AVal.list lf ln lr) ∧
            SubTL
                [AVal.ptr (Oid.hp 1) 0, AVal.func 164 [AVal.ptr (Oid.hp 0) 0], AVal.list lf ln lr,
                  AVal.int IntKind.i64 (↑ln : Int), AVal.int IntKind.i64 0]
                [AVal.ptr (Oid.hp 1) 0, AVal.func 164 [AVal.ptr (Oid.hp 0) 0], canV (AVal.list lf ln lr),
                  AVal.int IntKind.i64 (↑(lnV (AVal.list lf ln lr)) : Int), AVal.int IntKind.i64 0] ∧
              ([] : List (List AVal)) = [] ∧
                (b1H.mk (Obj.var (encVa (VaD.mk 6 n t lf ln lr kf ks)))
                      (Bld.mk (AVal.ptr (Oid.hp 1) 0)
                        (bfB 3 [UInt8.ofNat (Int.toNat 123)]
                          (wsV (Bld.mk AVal.nilptr AVal.nilX [] 0).t [UInt8.ofNat (Int.toNat 123)] 0))
                        [[AVal.int IntKind.u8 (↑(UInt8.ofNat (Int.toNat 123)).toNat : Int)]]
                        (wsV (Bld.mk AVal.nilptr AVal.nilX [] 0).t [UInt8.ofNat (Int.toNat 123)] 0))).heap =
                  (b1H.mk (Obj.var (encVa (VaD.mk 6 n t lf ln lr kf ks)))
                      (Bld.mk (AVal.ptr (Oid.hp 1) 0)
                        (AVal.own 3 0 1 (wsV (Bld.mk AVal.nilptr AVal.nilX [] 0).t [UInt8.ofNat (Int.toNat 123)] 0) false)
                        [[AVal.int IntKind.u8 (↑(UInt8.ofNat (Int.toNat 123)).toNat : Int)]]
                        (wsV (Bld.mk AVal.nilptr AVal.nilX [] 0).t [UInt8.ofNat (Int.toNat 123)] 0))).heap) then
      bif
          tst
            ((Bld.can 1 3
                  (Bld.mk
                    (E2
                        [AVal.int IntKind.i64 6, AVal.int IntKind.i64 n, AVal.str t, AVal.list lf ln lr,
                          AVal.list kf ks.length fun (i : Nat) => [AVal.str (ks.getD i [])]]
                        (AVal.list lf ln lr)
                        (Bld.mk (AVal.ptr (Oid.hp 1) 0)
                          (AVal.own 3 0 1 (wsV (Bld.mk AVal.nilptr AVal.nilX [] 0).t [UInt8.ofNat (Int.toNat 123)] 0)
                            false)
                          [[AVal.int IntKind.u8 (↑(UInt8.ofNat (Int.toNat 123)).toNat : Int)]]
                          (wsV (Bld.mk AVal.nilptr AVal.nilX [] 0).t [UInt8.ofNat (Int.toNat 123)] 0))).ad
                    (E2
                        [AVal.int IntKind.i64 6, AVal.int IntKind.i64 n, AVal.str t, AVal.list lf ln lr,
                          AVal.list kf ks.length fun (i : Nat) => [AVal.str (ks.getD i [])]]
                        (AVal.list lf ln lr)
                        (Bld.mk (AVal.ptr (Oid.hp 1) 0)
                          (AVal.own 3 0 1 (wsV (Bld.mk AVal.nilptr AVal.nilX [] 0).t [UInt8.ofNat (Int.toNat 123)] 0)
                            false)
                          [[AVal.int IntKind.u8 (↑(UInt8.ofNat (Int.toNat 123)).toNat : Int)]]
                          (wsV (Bld.mk AVal.nilptr AVal.nilX [] 0).t [UInt8.ofNat (Int.toNat 123)] 0))).b
                    (E2
                        [AVal.int IntKind.i64 6, AVal.int IntKind.i64 n, AVal.str t, AVal.list lf ln lr,
                          AVal.list kf ks.length fun (i : Nat) => [AVal.str (ks.getD i [])]]
                        (AVal.list lf ln lr)
                        (Bld.mk (AVal.ptr (Oid.hp 1) 0)
                          (AVal.own 3 0 1 (wsV (Bld.mk AVal.nilptr AVal.nilX [] 0).t [UInt8.ofNat (Int.toNat 123)] 0)
                            false)
                          [[AVal.int IntKind.u8 (↑(UInt8.ofNat (Int.toNat 123)).toNat : Int)]]
                          (wsV (Bld.mk AVal.nilptr AVal.nilX [] 0).t [UInt8.ofNat (Int.toNat 123)] 0))).rows
                    m0) ∧
                l1.length ≤ 1073741824) ∧
              SubL [AVal.ptr (Oid.hp 1) 0, AVal.int IntKind.u8 125]
                  [AVal.ptr (Oid.hp 1) 0, AVal.int IntKind.u8 (↑(UInt8.ofNat (Int.toNat 125)).toNat : Int)] ∧
                (b1H.mk (Obj.var (encVa (VaD.mk 6 n t lf ln lr kf ks)))
                      (E2
                        [AVal.int IntKind.i64 6, AVal.int IntKind.i64 n, AVal.str t, AVal.list lf ln lr,
                          AVal.list kf ks.length fun (i : Nat) => [AVal.str (ks.getD i [])]]
                        (AVal.list lf ln lr)
                        (Bld.mk (AVal.ptr (Oid.hp 1) 0)
                          (AVal.own 3 0 1 (wsV (Bld.mk AVal.nilptr AVal.nilX [] 0).t [UInt8.ofNat (Int.toNat 123)] 0)
                            false)
                          [[AVal.int IntKind.u8 (↑(UInt8.ofNat (Int.toNat 123)).toNat : Int)]]
                          (wsV (Bld.mk AVal.nilptr AVal.nilX [] 0).t [UInt8.ofNat (Int.toNat 123)] 0)))).heap =
                  (b1H.mk (Obj.var (encVa (VaD.mk 6 n t lf ln lr kf ks)))
                      (Bld.mk
                        (E2
                            [AVal.int IntKind.i64 6, AVal.int IntKind.i64 n, AVal.str t, AVal.list lf ln lr,
                              AVal.list kf ks.length fun (i : Nat) => [AVal.str (ks.getD i [])]]
                            (AVal.list lf ln lr)
                            (Bld.mk (AVal.ptr (Oid.hp 1) 0)
                              (AVal.own 3 0 1 (wsV (Bld.mk AVal.nilptr AVal.nilX [] 0).t [UInt8.ofNat (Int.toNat 123)] 0)
                                false)
                              [[AVal.int IntKind.u8 (↑(UInt8.ofNat (Int.toNat 123)).toNat : Int)]]
                              (wsV (Bld.mk AVal.nilptr AVal.nilX [] 0).t [UInt8.ofNat (Int.toNat 123)] 0))).ad
                        (E2
                            [AVal.int IntKind.i64 6, AVal.int IntKind.i64 n, AVal.str t, AVal.list lf ln lr,
                              AVal.list kf ks.length fun (i : Nat) => [AVal.str (ks.getD i [])]]
                            (AVal.list lf ln lr)
                            (Bld.mk (AVal.ptr (Oid.hp 1) 0)
                              (AVal.own 3 0 1 (wsV (Bld.mk AVal.nilptr AVal.nilX [] 0).t [UInt8.ofNat (Int.toNat 123)] 0)
                                false)
                              [[AVal.int IntKind.u8 (↑(UInt8.ofNat (Int.toNat 123)).toNat : Int)]]
                              (wsV (Bld.mk AVal.nilptr AVal.nilX [] 0).t [UInt8.ofNat (Int.toNat 123)] 0))).b
                        (E2
                            [AVal.int IntKind.i64 6, AVal.int IntKind.i64 n, AVal.str t, AVal.list lf ln lr,
                              AVal.list kf ks.length fun (i : Nat) => [AVal.str (ks.getD i [])]]
                            (AVal.list lf ln lr)
                            (Bld.mk (AVal.ptr (Oid.hp 1) 0)
                              (AVal.own 3 0 1 (wsV (Bld.mk AVal.nilptr AVal.nilX [] 0).t [UInt8.ofNat (Int.toNat 123)] 0)
                                false)
                              [[AVal.int IntKind.u8 (↑(UInt8.ofNat (Int.toNat 123)).toNat : Int)]]
                              (wsV (Bld.mk AVal.nilptr AVal.nilX [] 0).t [UInt8.ofNat (Int.toNat 123)] 0))).rows
                        m0)).heap) then
        bif
            tst
              ((Bld.can 1 3
                    (Bld.mk (AVal.ptr (Oid.hp 1) 0) (bfB 3 (l1.append [UInt8.ofNat (Int.toNat 125)]) m2)
                      ((E2
                              [AVal.int IntKind.i64 6, AVal.int IntKind.i64 n, AVal.str t, AVal.list lf ln lr,
                                AVal.list kf ks.length fun (i : Nat) => [AVal.str (ks.getD i [])]]
                              (AVal.list lf ln lr)
                              (Bld.mk (AVal.ptr (Oid.hp 1) 0)
                                (AVal.own 3 0 1
                                  (wsV (Bld.mk AVal.nilptr AVal.nilX [] 0).t [UInt8.ofNat (Int.toNat 123)] 0) false)
                                [[AVal.int IntKind.u8 (↑(UInt8.ofNat (Int.toNat 123)).toNat : Int)]]
                                (wsV (Bld.mk AVal.nilptr AVal.nilX [] 0).t [UInt8.ofNat (Int.toNat 123)] 0))).rows.append
                        [[AVal.int IntKind.u8 (↑(UInt8.ofNat (Int.toNat 125)).toNat : Int)]])
                      m2) ∧
                  l3.length ≤ 1099511627776) ∧
                SubL [AVal.ptr (Oid.hp 1) 0] [AVal.ptr (Oid.hp 1) 0] ∧
                  (b1H.mk (Obj.var (encVa (VaD.mk 6 n t lf ln lr kf ks)))
                        (Bld.mk (AVal.ptr (Oid.hp 1) 0) (bfB 3 (l1.append [UInt8.ofNat (Int.toNat 125)]) m2)
                          ((E2
                                  [AVal.int IntKind.i64 6, AVal.int IntKind.i64 n, AVal.str t, AVal.list lf ln lr,
                                    AVal.list kf ks.length fun (i : Nat) => [AVal.str (ks.getD i [])]]
                                  (AVal.list lf ln lr)
                                  (Bld.mk (AVal.ptr (Oid.hp 1) 0)
                                    (AVal.own 3 0 1
                                      (wsV (Bld.mk AVal.nilptr AVal.nilX [] 0).t [UInt8.ofNat (Int.toNat 123)] 0) false)
                                    [[AVal.int IntKind.u8 (↑(UInt8.ofNat (Int.toNat 123)).toNat : Int)]]
                                    (wsV (Bld.mk AVal.nilptr AVal.nilX [] 0).t [UInt8.ofNat (Int.toNat 123)]
                                      0))).rows.append
                            [[AVal.int IntKind.u8 (↑(UInt8.ofNat (Int.toNat 125)).toNat : Int)]])
                          m2)).heap =
                    (b1H.mk (Obj.var (encVa (VaD.mk 6 n t lf ln lr kf ks)))
                        (Bld.mk (AVal.ptr (Oid.hp 1) 0) (bfB 3 (l1.append [UInt8.ofNat (Int.toNat 125)]) m2)
                          ((E2
                                  [AVal.int IntKind.i64 6, AVal.int IntKind.i64 n, AVal.str t, AVal.list lf ln lr,
                                    AVal.list kf ks.length fun (i : Nat) => [AVal.str (ks.getD i [])]]
                                  (AVal.list lf ln lr)
                                  (Bld.mk (AVal.ptr (Oid.hp 1) 0)
                                    (AVal.own 3 0 1
                                      (wsV (Bld.mk AVal.nilptr AVal.nilX [] 0).t [UInt8.ofNat (Int.toNat 123)] 0) false)
                                    [[AVal.int IntKind.u8 (↑(UInt8.ofNat (Int.toNat 123)).toNat : Int)]]
                                    (wsV (Bld.mk AVal.nilptr AVal.nilX [] 0).t [UInt8.ofNat (Int.toNat 123)]
                                      0))).rows.append
                            [[AVal.int IntKind.u8 (↑(UInt8.ofNat (Int.toNat 125)).toNat : Int)]])
                          m2)).heap) then
          k
            (Out.ret (AVal.str l3)
              (b1H.mk (Obj.var (encVa (VaD.mk 6 n t lf ln lr kf ks)))
                  (Bld.mk (AVal.ptr (Oid.hp 1) 0) (bfB 3 (l1.append [UInt8.ofNat (Int.toNat 125)]) m2) []
                    (bif l3 == [] then m2 else m2 + 1))).heap)
        else none
      else none
    else none
  else none) := by
  subst e_m0 e_l1 e_m2 e_l3
  kernel_rfl
theorem prv_k7 (W : List AVal → Prop) (R : List AVal → List UInt8) (Wl : AVal → Prop) (E1 : AlE1) (E2 : AlE2) (n : Int) (t : List UInt8) (lf : Bool) (ln : Nat) (lr : Nat → List AVal) (kf : Bool) (ks : List (List UInt8)) (k : Out → Ans) : iFun Tryd.prog ((layAl W R Wl E1 E2).hd Tryd.prog) (layAl W R Wl E1 E2).fhs 0 103 [.agg (encVa ⟨7, n, t, lf, ln, lr, kf, ks⟩)] [] k = (
  k
  (Out.ret (AVal.str t)
  [Obj.var (encVa (VaD.mk 7 n t lf ln lr kf ks)), Obj.var [AVal.nilptr, AVal.nilX], Obj.note 98 2, Obj.arr 1 [] 0,
        Obj.note 5 0])) := by kernel_rfl
theorem prv_k8 (W : List AVal → Prop) (R : List AVal → List UInt8) (Wl : AVal → Prop) (E1 : AlE1) (E2 : AlE2) (n : Int) (t : List UInt8) (lf : Bool) (ln : Nat) (lr : Nat → List AVal) (kf : Bool) (ks : List (List UInt8)) (k : Out → Ans) : iFun Tryd.prog ((layAl W R Wl E1 E2).hd Tryd.prog) (layAl W R Wl E1 E2).fhs 0 103 [.agg (encVa ⟨8, n, t, lf, ln, lr, kf, ks⟩)] [] k = (
  k
  (Out.ret (AVal.str t)
  [Obj.var (encVa (VaD.mk 8 n t lf ln lr kf ks)), Obj.var [AVal.nilptr, AVal.nilX], Obj.note 98 2, Obj.arr 1 [] 0,
        Obj.note 5 0])) := by kernel_rfl
theorem prv_k9 (W : List AVal → Prop) (R : List AVal → List UInt8) (Wl : AVal → Prop) (E1 : AlE1) (E2 : AlE2) (n : Int) (t : List UInt8) (lf : Bool) (ln : Nat) (lr : Nat → List AVal) (kf : Bool) (ks : List (List UInt8)) (k : Out → Ans) : iFun Tryd.prog ((layAl W R Wl E1 E2).hd Tryd.prog) (layAl W R Wl E1 E2).fhs 0 103 [.agg (encVa ⟨9, n, t, lf, ln, lr, kf, ks⟩)] [] k = (
  k
  (Out.ret (AVal.str t)
  [Obj.var (encVa (VaD.mk 9 n t lf ln lr kf ks)), Obj.var [AVal.nilptr, AVal.nilX], Obj.note 98 2, Obj.arr 1 [] 0,
        Obj.note 5 0])) := by kernel_rfl
theorem prv_k10 (W : List AVal → Prop) (R : List AVal → List UInt8) (Wl : AVal → Prop) (E1 : AlE1) (E2 : AlE2) (n : Int) (t : List UInt8) (lf : Bool) (ln : Nat) (lr : Nat → List AVal) (kf : Bool) (ks : List (List UInt8)) (k : Out → Ans) : iFun Tryd.prog ((layAl W R Wl E1 E2).hd Tryd.prog) (layAl W R Wl E1 E2).fhs 0 103 [.agg (encVa ⟨10, n, t, lf, ln, lr, kf, ks⟩)] [] k = (
  k
  (Out.ret (AVal.str t)
  [Obj.var (encVa (VaD.mk 10 n t lf ln lr kf ks)), Obj.var [AVal.nilptr, AVal.nilX], Obj.note 98 2, Obj.arr 1 [] 0,
        Obj.note 5 0])) := by kernel_rfl
theorem prv_k11 (W : List AVal → Prop) (R : List AVal → List UInt8) (Wl : AVal → Prop) (E1 : AlE1) (E2 : AlE2) (n : Int) (t : List UInt8) (lf : Bool) (ln : Nat) (lr : Nat → List AVal) (kf : Bool) (ks : List (List UInt8)) (k : Out → Ans) : iFun Tryd.prog ((layAl W R Wl E1 E2).hd Tryd.prog) (layAl W R Wl E1 E2).fhs 0 103 [.agg (encVa ⟨11, n, t, lf, ln, lr, kf, ks⟩)] [] k = (
  k
  (Out.ret (AVal.str t)
  [Obj.var (encVa (VaD.mk 11 n t lf ln lr kf ks)), Obj.var [AVal.nilptr, AVal.nilX], Obj.note 98 2, Obj.arr 1 [] 0,
        Obj.note 5 0])) := by kernel_rfl
end Go.Mu
set_option linter.unusedVariables false
set_option linter.unusedSimpArgs false
set_option maxRecDepth 100000
namespace Go.Mu
open Go Go.Proofs
/- what is printed -/
def ahK (ks : List (List UInt8)) (i : Nat) : List UInt8 := if i < ks.length then ks.getD i [] ++ [58] else [58]
def alB (A : Nat → List UInt8) (R : VaD → List UInt8) (l : List VaD) (i : Nat) : List (List UInt8) := (if 0 < i then [[32]] else []) ++ [A i, R (l.getD i va0)]
def alT (A : Nat → List UInt8) (R : VaD → List UInt8) (l : List VaD) : List UInt8 := (List.range l.length).flatMap (fun i => (alB A R l i).flatten)
def prV : Nat → VaD → List UInt8
  | 0, _ => []
  | d + 1, v => if v.kind = 0 then [110, 117, 108, 108] else if v.kind = 1 then [102, 97, 108, 115, 101] else if v.kind = 2 then [116, 114, 117, 101] else if v.kind = 3 then printM v.int
    else if v.kind = 5 then [91] ++ alT (fun _ => []) (prV d) (vals v.list) ++ [93] else if v.kind = 6 then [123] ++ alT (ahK v.keys) (prV d) (vals v.list) ++ [125] else v.text
theorem printM_len (n : Int) : (printM n).length ≤ 20 := by
  unfold printM
  have := digsF_len 19 n.natAbs []
  cases decide (n < 0)
  · simp only [cond_false]; simp at this; omega
  · simp only [cond_true, List.length_cons]; simp at this; omega
theorem alB_len (A : Nat → List UInt8) (R : VaD → List UInt8) (l : List VaD) (i : Nat) : (alB A R l i).flatten.length ≤ 1 + (A i).length + (R (l.getD i va0)).length := by
  unfold alB
  by_cases h : 0 < i
  · rw [if_pos h]; simp; omega
  · rw [if_neg h]; simp
theorem take_sum {α : Type} (f : α → Nat) (l : List α) (d : α) (i : Nat) (h : i < l.length) : ((l.take (i + 1)).map f).sum = ((l.take i).map f).sum + f (l.getD i d) := by
  rw [take_map l d f i h, List.sum_append]; simp
theorem take_sum_le {α : Type} (f : α → Nat) : ∀ (l : List α) (i : Nat), ((l.take i).map f).sum ≤ (l.map f).sum
  | [], i => by simp
  | a :: l, 0 => by simp
  | a :: l, i + 1 => by
    have := take_sum_le f l i
    simp only [List.take_succ_cons, List.map_cons, List.sum_cons]
    omega
theorem alT_part (ks : List (List UInt8)) (A : Nat → List UInt8) (R : VaD → List UInt8) (S : VaD → Nat) (hA : ∀ i, (A i).length ≤ (if i < ks.length then (ks.getD i []).length else 0) + 1) (l : List VaD) (hR : ∀ v ∈ l, 4 * (R v).length + 8 ≤ S v) : ∀ i, i ≤ l.length →
    4 * ((List.range i).flatMap (fun i => (alB A R l i).flatten)).length ≤ ((l.take i).map S).sum + ((ks.take i).map (fun k => 16 + 16 * k.length)).sum := by
  intro i
  induction i with
  | zero => intro _; simp
  | succ i ih =>
    intro hi
    have ih := ih (by omega)
    rw [range_flat, List.length_append, take_sum S l va0 i (by omega)]
    have hm : l.getD i va0 ∈ l := by rw [List.getD_eq_getElem?_getD, List.getElem?_eq_getElem (by omega)]; exact List.getElem_mem _
    have h1 := hR _ hm
    have h2 := alB_len A R l i
    have h3 := hA i
    by_cases hk : i < ks.length
    · rw [take_sum (fun k : List UInt8 => 16 + 16 * k.length) ks [] i hk]
      rw [if_pos hk] at h3
      omega
    · rw [if_neg hk] at h3
      rw [List.take_of_length_le (by omega : ks.length ≤ i + 1)]
      rw [List.take_of_length_le (by omega : ks.length ≤ i)] at ih
      omega
theorem ahK_len (ks : List (List UInt8)) (i : Nat) : (ahK ks i).length ≤ (if i < ks.length then (ks.getD i []).length else 0) + 1 := by
  unfold ahK
  split
  · rw [List.length_append]; simp
  · simp
theorem alT_len (ks : List (List UInt8)) (A : Nat → List UInt8) (R : VaD → List UInt8) (S : VaD → Nat) (hA : ∀ i, (A i).length ≤ (if i < ks.length then (ks.getD i []).length else 0) + 1) (l : List VaD) (hR : ∀ v ∈ l, 4 * (R v).length + 8 ≤ S v) :
    4 * (alT A R l).length ≤ (l.map S).sum + (ks.map (fun k => 16 + 16 * k.length)).sum := by
  have h := alT_part ks A R S hA l hR l.length (Nat.le_refl _)
  rw [List.take_of_length_le (Nat.le_refl _)] at h
  have := take_sum_le (fun k : List UInt8 => 16 + 16 * k.length) ks l.length
  unfold alT
  omega
theorem prV_len : ∀ (d : Nat) (v : VaD), 4 * (prV d v).length + 8 ≤ szV d v
  | 0, v => by unfold prV szV; simp
  | d + 1, v => by
    have ih := prV_len d
    have h1 := alT_len [] (fun _ => []) (prV d) (szV d) (fun i => by simp) (vals v.list) (fun v _ => ih v)
    have h2 := alT_len v.keys (ahK v.keys) (prV d) (szV d) (ahK_len v.keys) (vals v.list) (fun v _ => ih v)
    have h3 := printM_len v.int
    unfold prV szV
    simp only [List.map_nil, List.sum_nil] at h1
    repeat' split
    all_goals first
      | (simp only [List.length_cons, List.length_nil]; omega)
      | (simp only [List.length_append, List.length_cons, List.length_nil]; omega)
      | omega
def okKind (v : VaD) : Prop := 0 ≤ v.kind ∧ v.kind ≤ 11
def kdV : Nat → VaD → Prop
  | 0, _ => False
  | d + 1, v => okKind v ∧ ∀ x ∈ vals v.list, kdV d x
def PvD (d : Nat) (x : List AVal) : Prop := WvD d x ∧ kdV d (decVa x)
def PlD (d : Nat) (x : AVal) : Prop := WlD d x ∧ ∀ v ∈ vals x, kdV d v
theorem PvD_enc {d : Nat} {v : VaD} (h : wfVal d v ∧ szV d v ≤ 16777216 ∧ kdV d v) : PvD d (encVa v) := ⟨WvD_enc h.1 h.2.1, by rw [decVa_enc]; exact h.2.2⟩
theorem PlD_mem {d : Nat} {x : AVal} (h : PlD d x) {v : VaD} (hv : v ∈ vals x) : wfVal d v ∧ szV d v ≤ 16777216 ∧ kdV d v := ⟨(WlD_mem h.1 hv).1, (WlD_mem h.1 hv).2, h.2 v hv⟩
/- all -/
def prR (d : Nat) (x : List AVal) : List UInt8 := prV d (decVa x)
theorem prR_enc (d : Nat) (v : VaD) : prR d (encVa v) = prV d v := by unfold prR; rw [decVa_enc]
def aE1 (d : Nat) : AlE1 := fun x b => b.addA 1 3 ((List.range (vals x).length).flatMap (alB (fun _ => []) (prV d) (vals x)))
def aE2 (d : Nat) : AlE2 := fun c x b => b.addA 1 3 ((List.range (vals x).length).flatMap (alB (ahK (decVa c).keys) (prV d) (vals x)))
noncomputable abbrev alTurn (d : Nat) := lturn Tryd.prog (layAl0 (PvD d) (prR d)) (alFH (PlD d) (aE1 d) (aE2 d)) 162 1 [0,2,8,9,10] [] [] []
theorem al_rd1 (d : Nat) (P0 : Obj) (y : Bld) (hy : y.can 1 3) (ht : y.t.length ≤ 1073741824) (f : Bool) (l : List VaD) (hl : l.length ≤ 1099511627776) (i : Nat) (hi : i < l.length) (hW : wfVal d (l.getD i va0) ∧ szV d (l.getD i va0) ≤ 16777216 ∧ kdV d (l.getD i va0)) (D : List (FuncId × List AVal)) (k : Kont) :
    alTurn d (stL 29 [0,2,8,9,10] [.ptr (.hp 1) 0, .func 163 [], encVas f l, .int .i64 l.length, .int .i64 (i : Nat)] [] [] (b1H.mk P0 y).heap D) k = k .normal (stL 29 [0,2,8,9,10] [.ptr (.hp 1) 0, .func 163 [], encVas f l, .int .i64 l.length, .int .i64 ((i + 1 : Nat) : Int)] [] [] (b1H.mk P0 (y.addA 1 3 (alB (fun _ => []) (prV d) l i))).heap D) := by
  have hp := prV_len d (l.getD i va0)
  have a1 : (y.add 1 3 [32]).t.length = y.t.length + 1 := by rw [Bld.add_t, List.length_append]; rfl
  have a2 : ((y.add 1 3 [32]).add 1 3 []).t.length = y.t.length + 1 := by rw [Bld.add_t, List.length_append, a1]; rfl
  have a3 : (y.add 1 3 []).t.length = y.t.length := by rw [Bld.add_t, List.length_append]; rfl
  have ep := prR_enc d (l.getD i va0)
  refine (al_step1 (PvD d) (prR d) (PlD d) (aE1 d) (aE2 d) P0 y f l.length (fun i => l.getD i va0) l.length i D k y.t rfl _ rfl _ rfl (y.add 1 3 [32]).t rfl _ rfl _ rfl ((y.add 1 3 [32]).add 1 3 []).t rfl (prV d (l.getD i va0)) ep.symm _ rfl _ rfl _ rfl (y.add 1 3 []).t rfl _ rfl).trans ?_
  have e1 : IntKind.i64.wrap ((i : Int) + 1) = ((i + 1 : Nat) : Int) := wrap_add1 (by omega)
  simp only [e1, dT (show (i : Int) < l.length by omega), dT (show (0 : Int) ≤ (i : Int) by omega), Bool.and_self, cond_true, Int.toNat_natCast]
  unfold alB
  by_cases h0 : 0 < i
  · rw [dT (show (i : Int) > 0 by omega), cond_true, if_pos h0]
    refine (congrArg (fun c => cond c _ none) (tst_true ⟨⟨hy, by omega⟩, .refl _, by trivial⟩)).trans ((cond_true _ _).trans ?_)
    refine (congrArg (fun c => cond c _ none) (tst_true ⟨⟨Bld.add_can hy [32], by omega⟩, .refl _, by trivial⟩)).trans ((cond_true _ _).trans ?_)
    refine (congrArg (fun c => cond c _ none) (tst_true ⟨PvD_enc hW, .refl _, by trivial⟩)).trans ((cond_true _ _).trans ?_)
    exact (congrArg (fun c => cond c _ none) (tst_true ⟨⟨Bld.add_can (Bld.add_can hy [32]) [], by omega⟩, .refl _, by trivial⟩)).trans rfl
  · rw [dF (show ¬ (i : Int) > 0 by omega), cond_false, if_neg h0]
    refine (congrArg (fun c => cond c _ none) (tst_true ⟨⟨hy, by omega⟩, .refl _, by trivial⟩)).trans ((cond_true _ _).trans ?_)
    refine (congrArg (fun c => cond c _ none) (tst_true ⟨PvD_enc hW, .refl _, by trivial⟩)).trans ((cond_true _ _).trans ?_)
    exact (congrArg (fun c => cond c _ none) (tst_true ⟨⟨Bld.add_can hy [], by omega⟩, .refl _, by trivial⟩)).trans rfl
theorem al_rd2 (d : Nat) (v : VaD) (hk : ∀ i, (v.keys.getD i []).length ≤ 1073741824) (y : Bld) (hy : y.can 1 3) (ht : y.t.length ≤ 1073741824) (f : Bool) (l : List VaD) (hl : l.length ≤ 1099511627776) (i : Nat) (hi : i < l.length) (hW : wfVal d (l.getD i va0) ∧ szV d (l.getD i va0) ≤ 16777216 ∧ kdV d (l.getD i va0)) (D : List (FuncId × List AVal)) (k : Kont) :
    alTurn d (stL 29 [0,2,8,9,10] [.ptr (.hp 1) 0, .func 164 [.ptr (.hp 0) 0], encVas f l, .int .i64 l.length, .int .i64 (i : Nat)] [] [] (b1H.mk (.var (encVa v)) y).heap D) k = k .normal (stL 29 [0,2,8,9,10] [.ptr (.hp 1) 0, .func 164 [.ptr (.hp 0) 0], encVas f l, .int .i64 l.length, .int .i64 ((i + 1 : Nat) : Int)] [] [] (b1H.mk (.var (encVa v)) (y.addA 1 3 (alB (ahK v.keys) (prV d) l i))).heap D) := by
  have hp := prV_len d (l.getD i va0)
  have hki := hk i
  have ek : (v.keys.getD i [] ++ [58]).length = (v.keys.getD i []).length + 1 := by rw [List.length_append]; rfl
  have a1 : (y.add 1 3 [32]).t.length = y.t.length + 1 := by rw [Bld.add_t, List.length_append]; rfl
  have a2 : ((y.add 1 3 [32]).add 1 3 (v.keys.getD i [] ++ [58])).t.length = y.t.length + 1 + ((v.keys.getD i []).length + 1) := by rw [Bld.add_t, List.length_append, a1, ek]
  have a3 : ((y.add 1 3 [32]).add 1 3 [58]).t.length = y.t.length + 1 + 1 := by rw [Bld.add_t, List.length_append, a1]; rfl
  have a4 : (y.add 1 3 (v.keys.getD i [] ++ [58])).t.length = y.t.length + ((v.keys.getD i []).length + 1) := by rw [Bld.add_t, List.length_append, ek]
  have a5 : (y.add 1 3 [58]).t.length = y.t.length + 1 := by rw [Bld.add_t, List.length_append]; rfl
  have ep := prR_enc d (l.getD i va0)
  refine (al_step2 (PvD d) (prR d) (PlD d) (aE1 d) (aE2 d) v y f l.length (fun i => l.getD i va0) l.length i D k _ rfl y.t rfl _ rfl _ rfl _ rfl (v.keys.getD i []) (by rw [Int.toNat_natCast]) _ rfl _ rfl (y.add 1 3 [32]).t rfl _ rfl (v.keys.getD i [] ++ [58]) rfl _ rfl _ rfl _ rfl ((y.add 1 3 [32]).add 1 3 (v.keys.getD i [] ++ [58])).t rfl (prV d (l.getD i va0)) ep.symm _ rfl _ rfl _ rfl ((y.add 1 3 [32]).add 1 3 [58]).t rfl _ rfl _ rfl (y.add 1 3 (v.keys.getD i [] ++ [58])).t rfl _ rfl _ rfl (y.add 1 3 [58]).t rfl _ rfl).trans ?_
  have e1 : IntKind.i64.wrap ((i : Int) + 1) = ((i + 1 : Nat) : Int) := wrap_add1 (by omega)
  simp only [e1, dT (show (i : Int) < l.length by omega), dT (show (0 : Int) ≤ (i : Int) by omega), Bool.and_self, cond_true, Int.toNat_natCast]
  unfold alB ahK
  have c12 := fun (p : Ans) => congrArg (fun c => cond c p none) (tst_true (p := PvD d (encVa (l.getD i va0)) ∧ SubL [.agg (encVa (l.getD i va0))] [.agg (encVa (l.getD i va0))] ∧ ([] : Heap) = []) ⟨PvD_enc hW, .refl _, rfl⟩)
  by_cases hkl : i < v.keys.length
  · simp only [dT (show (i : Int) < v.keys.length by omega), dT (show (v.keys.getD i []).length + 1 ≤ 4611686018427387904 by omega), Bool.and_self, cond_true, if_pos hkl]
    by_cases h0 : 0 < i
    · rw [dT (show (i : Int) > 0 by omega), cond_true, if_pos h0]
      refine (congrArg (fun c => cond c _ none) (tst_true ⟨⟨hy, by omega⟩, .refl _, by trivial⟩)).trans ((cond_true _ _).trans ?_)
      refine (congrArg (fun c => cond c _ none) (tst_true ⟨⟨Bld.add_can hy [32], by omega⟩, .refl _, by trivial⟩)).trans ((cond_true _ _).trans ?_)
      refine (congrArg (fun c => cond c _ none) (tst_true ⟨PvD_enc hW, .refl _, by trivial⟩)).trans ((cond_true _ _).trans ?_)
      exact (congrArg (fun c => cond c _ none) (tst_true ⟨⟨Bld.add_can (Bld.add_can hy [32]) _, by omega⟩, .refl _, by trivial⟩)).trans rfl
    · rw [dF (show ¬ (i : Int) > 0 by omega), cond_false, if_neg h0]
      refine (congrArg (fun c => cond c _ none) (tst_true ⟨⟨hy, by omega⟩, .refl _, by trivial⟩)).trans ((cond_true _ _).trans ?_)
      refine (congrArg (fun c => cond c _ none) (tst_true ⟨PvD_enc hW, .refl _, by trivial⟩)).trans ((cond_true _ _).trans ?_)
      exact (congrArg (fun c => cond c _ none) (tst_true ⟨⟨Bld.add_can hy _, by omega⟩, .refl _, by trivial⟩)).trans rfl
  · simp only [dF (show ¬ (i : Int) < v.keys.length by omega), cond_false, if_neg hkl]
    by_cases h0 : 0 < i
    · rw [dT (show (i : Int) > 0 by omega), cond_true, if_pos h0]
      refine (congrArg (fun c => cond c _ none) (tst_true ⟨⟨hy, by omega⟩, .refl _, by trivial⟩)).trans ((cond_true _ _).trans ?_)
      refine (congrArg (fun c => cond c _ none) (tst_true ⟨⟨Bld.add_can hy [32], by omega⟩, .refl _, by trivial⟩)).trans ((cond_true _ _).trans ?_)
      refine (congrArg (fun c => cond c _ none) (tst_true ⟨PvD_enc hW, .refl _, by trivial⟩)).trans ((cond_true _ _).trans ?_)
      exact (congrArg (fun c => cond c _ none) (tst_true ⟨⟨Bld.add_can (Bld.add_can hy [32]) _, by omega⟩, .refl _, by trivial⟩)).trans rfl
    · rw [dF (show ¬ (i : Int) > 0 by omega), cond_false, if_neg h0]
      refine (congrArg (fun c => cond c _ none) (tst_true ⟨⟨hy, by omega⟩, .refl _, by trivial⟩)).trans ((cond_true _ _).trans ?_)
      refine (congrArg (fun c => cond c _ none) (tst_true ⟨PvD_enc hW, .refl _, by trivial⟩)).trans ((cond_true _ _).trans ?_)
      exact (congrArg (fun c => cond c _ none) (tst_true ⟨⟨Bld.add_can hy _, by omega⟩, .refl _, by trivial⟩)).trans rfl
theorem al_part_len {d : Nat} {x : AVal} (h : WlD d x) (ks : List (List UInt8)) (A : Nat → List UInt8) (hA : ∀ i, (A i).length ≤ (if i < ks.length then (ks.getD i []).length else 0) + 1) (hk : (ks.map (fun k => 16 + 16 * k.length)).sum ≤ 16777216) (b : Bld) (hb : b.t.length ≤ 1) (i : Nat) (hi : i ≤ (vals x).length) :
    (b.addA 1 3 ((List.range i).flatMap (alB A (prV d) (vals x)))).t.length ≤ 1073741824 := by
  have h1 := alT_part ks A (prV d) (szV d) hA (vals x) (fun v _ => prV_len d v) i hi
  have h2 := take_sum_le (szV d) (vals x) i
  have h3 := take_sum_le (fun k : List UInt8 => 16 + 16 * k.length) ks i
  have h4 := h.2.2
  rw [Bld.addA_t, flatMap_flatten, List.length_append]
  omega
theorem alSp_ok (d : Nat) : SpOK (alTurn d) 29 [0,2,8,9,10] [] [] [] (alSp (PlD d) (aE1 d) (aE2 d)) := mkL_ok fun a h => by
  obtain ⟨⟨P0, b⟩, g, x⟩ := a
  obtain ⟨h1, h2, h3, h4⟩ := h
  simp only at h1 h2 h3 h4
  have hl := WlD_len h3.1
  have hW : ∀ i, i < (vals x).length → wfVal d ((vals x).getD i va0) ∧ szV d ((vals x).getD i va0) ≤ 16777216 ∧ kdV d ((vals x).getD i va0) := fun i hi => PlD_mem h3 (by rw [List.getD_eq_getElem?_getD, List.getElem?_eq_getElem hi]; exact List.getElem_mem hi)
  rcases h4 with rfl | ⟨rfl, v, hv, hk⟩
  · refine ⟨.exit 0, [], [], (b1H.mk P0 (aE1 d x b)).heap, fun k => rfl, ?_⟩
    exact seq_runs (turn := alTurn d) (n := 29) (l := [0,2,8,9,10]) (m := []) (lx := []) (mx := []) (fun i => [.ptr (.hp 1) 0, .func 163 [], encVas (fullOf x) (vals x), .int .i64 (vals x).length, .int .i64 (i : Nat)]) (fun _ => []) (fun i => (b1H.mk P0 (b.addA 1 3 ((List.range i).flatMap (alB (fun _ => []) (prV d) (vals x))))).heap) (vals x).length (e := .exit 0) (by simp)
      (fun i hi D k => by
        refine (al_rd1 d P0 _ (Bld.addA_can _ h1) (al_part_len h3.1 [] (fun _ => []) (fun i => by simp) (by simp) b h2 i (by omega)) (fullOf x) (vals x) (by omega) i hi (hW i hi) D k).trans ?_
        rw [range_flat, Bld.addA_app])
      (fun D k => by
        refine (al_step1 (PvD d) (prR d) (PlD d) (aE1 d) (aE2 d) P0 _ (fullOf x) (vals x).length (fun i => (vals x).getD i va0) (vals x).length (vals x).length D k _ rfl _ rfl _ rfl _ rfl _ rfl _ rfl _ rfl _ rfl _ rfl _ rfl _ rfl _ rfl _ rfl).trans ?_
        rw [dF (show ¬ ((vals x).length : Int) < (vals x).length by omega), cond_false]
        rfl)
  · have hv : P0 = .var (encVa v) := hv
    subst hv
    have hki : ∀ i, (v.keys.getD i []).length ≤ 1073741824 := fun i => by
      rw [List.getD_eq_getElem?_getD]
      by_cases hi : i < v.keys.length
      · rw [List.getElem?_eq_getElem hi]
        have := sum_mem (fun k : List UInt8 => 16 + 16 * k.length) v.keys _ (List.getElem_mem hi)
        simp only [Option.getD_some]
        omega
      · rw [List.getElem?_eq_none (by omega)]; simp
    have e2 : aE2 d (cellsO (.var (encVa v))) x b = b.addA 1 3 ((List.range (vals x).length).flatMap (alB (ahK v.keys) (prV d) (vals x))) := by
      unfold aE2 cellsO
      rw [decVa_enc]
    refine ⟨.exit 0, [], [], (b1H.mk (.var (encVa v)) (aE2 d (cellsO (.var (encVa v))) x b)).heap, fun k => rfl, ?_⟩
    rw [e2]
    exact seq_runs (turn := alTurn d) (n := 29) (l := [0,2,8,9,10]) (m := []) (lx := []) (mx := []) (fun i => [.ptr (.hp 1) 0, .func 164 [.ptr (.hp 0) 0], encVas (fullOf x) (vals x), .int .i64 (vals x).length, .int .i64 (i : Nat)]) (fun _ => []) (fun i => (b1H.mk (.var (encVa v)) (b.addA 1 3 ((List.range i).flatMap (alB (ahK v.keys) (prV d) (vals x))))).heap) (vals x).length (e := .exit 0) (by simp)
      (fun i hi D k => by
        refine (al_rd2 d v hki _ (Bld.addA_can _ h1) (al_part_len h3.1 v.keys (ahK v.keys) (ahK_len v.keys) hk b h2 i (by omega)) (fullOf x) (vals x) (by omega) i hi (hW i hi) D k).trans ?_
        rw [range_flat, Bld.addA_app])
      (fun D k => by
        refine (al_step2 (PvD d) (prR d) (PlD d) (aE1 d) (aE2 d) v _ (fullOf x) (vals x).length (fun i => (vals x).getD i va0) (vals x).length (vals x).length D k _ rfl _ rfl _ rfl _ rfl _ rfl _ rfl _ rfl _ rfl _ rfl _ rfl _ rfl _ rfl _ rfl _ rfl _ rfl _ rfl _ rfl _ rfl _ rfl _ rfl _ rfl _ rfl _ rfl _ rfl _ rfl _ rfl _ rfl).trans ?_
        rw [dF (show ¬ ((vals x).length : Int) < (vals x).length by omega), cond_false])
theorem layAl0_ok {d : Nat} (h : ∀ xs H k out, pvTold (PvD d) (prR d) xs H k = some out → ∃ o, CallOK Tryd.prog 103 xs H o ∧ k o = some out) : (layAl0 (PvD d) (prR d)).OK Tryd.prog := b1_ok ((Lay.nil_ok.addF h).addF prTold_ok)
theorem layAl_ok {d : Nat} (h : ∀ xs H k out, pvTold (PvD d) (prR d) xs H k = some out → ∃ o, CallOK Tryd.prog 103 xs H o ∧ k o = some out) : (layAl (PvD d) (prR d) (PlD d) (aE1 d) (aE2 d)).OK Tryd.prog :=
  ((layAl0_ok h).loop1 (id := 1) (by kernel_rfl) (by kernel_rfl) (by kernel_rfl) (alSp_ok d)).addN (by kernel_rfl)
theorem prv_list5 (d : Nat) (hp : ∀ xs H k out, pvTold (PvD d) (prR d) xs H k = some out → ∃ o, CallOK Tryd.prog 103 xs H o ∧ k o = some out) (n : Int) (t : List UInt8) (lf : Bool) (ln : Nat) (lr : Nat → List AVal) (kf : Bool) (ks : List (List UInt8)) (hl : PlD d (.list lf ln lr))  :
    CallOK Tryd.prog 103 [.agg (encVa ⟨5, n, t, lf, ln, lr, kf, ks⟩)] [] (.ret (.str ([91] ++ alT (fun _ => []) (prV d) (vals (.list lf ln lr)) ++ [93])) []) := by
  have c0 : (Bld.new.add 1 3 [91]).can 1 3 := Bld.add_can (Bld.new_can 1 3) [91]
  have c1 : (aE1 d (.list lf ln lr) (Bld.new.add 1 3 [91])).can 1 3 := Bld.addA_can _ c0
  have c2 := Bld.add_can c1 [93]
  have t1 : (aE1 d (.list lf ln lr) (Bld.new.add 1 3 [91])).t = [91] ++ alT (fun _ => []) (prV d) (vals (.list lf ln lr)) := by
    unfold aE1
    rw [Bld.addA_t, flatMap_flatten, Bld.add_t]; rfl
  have t2 : ((aE1 d (.list lf ln lr) (Bld.new.add 1 3 [91])).add 1 3 [93]).t = [91] ++ alT (fun _ => []) (prV d) (vals (.list lf ln lr)) ++ [93] := by rw [Bld.add_t, t1]
  have hlen := alT_len [] (fun _ => []) (prV d) (szV d) (fun i => by simp) (vals (.list lf ln lr)) (fun v _ => prV_len d v)
  have hs := hl.1.2.2
  try simp only [List.map_nil, List.sum_nil] at hlen
  have l1 : (aE1 d (.list lf ln lr) (Bld.new.add 1 3 [91])).t.length ≤ 1073741000 := by rw [t1]; simp; omega
  have l2 : ((aE1 d (.list lf ln lr) (Bld.new.add 1 3 [91])).add 1 3 [93]).t.length ≤ 1073741824 := by rw [Bld.add_t, List.length_append]; simp only [List.length_singleton]; omega
  have e : lnV (AVal.list lf ln lr) = ln := lnV_eq (d := d) hl.1
  have key := fun k => (prv_k5 (PvD d) (prR d) (PlD d) (aE1 d) (aE2 d) n t lf ln lr kf ks k (aE1 d (.list lf ln lr) (Bld.new.add 1 3 [91])).v rfl (aE1 d (.list lf ln lr) (Bld.new.add 1 3 [91])).t rfl _ rfl ((aE1 d (.list lf ln lr) (Bld.new.add 1 3 [91])).add 1 3 [93]).t rfl).trans
    ((congrArg (fun c => cond c _ none) (tst_true ⟨⟨Bld.new_can 1 3, by omega⟩, .refl _, by trivial⟩)).trans ((cond_true _ _).trans
    ((congrArg (fun c => cond c _ none) (tst_true ⟨⟨c0, Nat.le_refl _, hl, .inl rfl⟩, (by rw [e]; exact .cons (.refl _) (.cons (.refl _) (.cons (canV_sub hl.1) (.refl _)))), rfl, rfl⟩)).trans ((cond_true _ _).trans
    ((congrArg (fun c => cond c _ none) (tst_true ⟨⟨c1, by omega⟩, .refl _, by trivial⟩)).trans ((cond_true _ _).trans
    ((congrArg (fun c => cond c _ none) (tst_true ⟨⟨c2, by omega⟩, .refl _, by trivial⟩)).trans (cond_true _ _))))))))
  rw [← t2]
  exact (layAl_ok hp).callF rfl key
theorem prv_list6 (d : Nat) (hp : ∀ xs H k out, pvTold (PvD d) (prR d) xs H k = some out → ∃ o, CallOK Tryd.prog 103 xs H o ∧ k o = some out) (n : Int) (t : List UInt8) (lf : Bool) (ln : Nat) (lr : Nat → List AVal) (kf : Bool) (ks : List (List UInt8)) (hl : PlD d (.list lf ln lr)) (hk : (ks.map (fun k => 16 + 16 * k.length)).sum ≤ 16777216) :
    CallOK Tryd.prog 103 [.agg (encVa ⟨6, n, t, lf, ln, lr, kf, ks⟩)] [] (.ret (.str ([123] ++ alT (ahK ks) (prV d) (vals (.list lf ln lr)) ++ [125])) []) := by
  have c0 : (Bld.new.add 1 3 [123]).can 1 3 := Bld.add_can (Bld.new_can 1 3) [123]
  have e2 : ∀ b, aE2 d (encVa ⟨6, n, t, lf, ln, lr, kf, ks⟩) (.list lf ln lr) b = b.addA 1 3 ((List.range (vals (.list lf ln lr)).length).flatMap (alB (ahK ks) (prV d) (vals (.list lf ln lr)))) := fun b => by
    unfold aE2
    rw [decVa_enc]
  have c1 : (aE2 d (encVa ⟨6, n, t, lf, ln, lr, kf, ks⟩) (.list lf ln lr) (Bld.new.add 1 3 [123])).can 1 3 := by rw [e2]; exact Bld.addA_can _ c0
  have c2 := Bld.add_can c1 [125]
  have t1 : (aE2 d (encVa ⟨6, n, t, lf, ln, lr, kf, ks⟩) (.list lf ln lr) (Bld.new.add 1 3 [123])).t = [123] ++ alT (ahK ks) (prV d) (vals (.list lf ln lr)) := by
    rw [e2]
    rw [Bld.addA_t, flatMap_flatten, Bld.add_t]; rfl
  have t2 : ((aE2 d (encVa ⟨6, n, t, lf, ln, lr, kf, ks⟩) (.list lf ln lr) (Bld.new.add 1 3 [123])).add 1 3 [125]).t = [123] ++ alT (ahK ks) (prV d) (vals (.list lf ln lr)) ++ [125] := by rw [Bld.add_t, t1]
  have hlen := alT_len ks (ahK ks) (prV d) (szV d) (ahK_len ks) (vals (.list lf ln lr)) (fun v _ => prV_len d v)
  have hs := hl.1.2.2
  try simp only [List.map_nil, List.sum_nil] at hlen
  have l1 : (aE2 d (encVa ⟨6, n, t, lf, ln, lr, kf, ks⟩) (.list lf ln lr) (Bld.new.add 1 3 [123])).t.length ≤ 1073741000 := by rw [t1]; simp; omega
  have l2 : ((aE2 d (encVa ⟨6, n, t, lf, ln, lr, kf, ks⟩) (.list lf ln lr) (Bld.new.add 1 3 [123])).add 1 3 [125]).t.length ≤ 1073741824 := by rw [Bld.add_t, List.length_append]; simp only [List.length_singleton]; omega
  have e : lnV (AVal.list lf ln lr) = ln := lnV_eq (d := d) hl.1
  have key := fun k => (prv_k6 (PvD d) (prR d) (PlD d) (aE1 d) (aE2 d) n t lf ln lr kf ks k (aE2 d (encVa ⟨6, n, t, lf, ln, lr, kf, ks⟩) (.list lf ln lr) (Bld.new.add 1 3 [123])).v rfl (aE2 d (encVa ⟨6, n, t, lf, ln, lr, kf, ks⟩) (.list lf ln lr) (Bld.new.add 1 3 [123])).t rfl _ rfl ((aE2 d (encVa ⟨6, n, t, lf, ln, lr, kf, ks⟩) (.list lf ln lr) (Bld.new.add 1 3 [123])).add 1 3 [125]).t rfl).trans
    ((congrArg (fun c => cond c _ none) (tst_true ⟨⟨Bld.new_can 1 3, by omega⟩, .refl _, by trivial⟩)).trans ((cond_true _ _).trans
    ((congrArg (fun c => cond c _ none) (tst_true ⟨⟨c0, Nat.le_refl _, hl, .inr ⟨rfl, _, rfl, hk⟩⟩, (by rw [e]; exact .cons (.refl _) (.cons (.refl _) (.cons (canV_sub hl.1) (.refl _)))), rfl, rfl⟩)).trans ((cond_true _ _).trans
    ((congrArg (fun c => cond c _ none) (tst_true ⟨⟨c1, by omega⟩, .refl _, by trivial⟩)).trans ((cond_true _ _).trans
    ((congrArg (fun c => cond c _ none) (tst_true ⟨⟨c2, by omega⟩, .refl _, by trivial⟩)).trans (cond_true _ _))))))))
  rw [← t2]
  exact (layAl_ok hp).callF rfl key
theorem prv_ok (d : Nat) (hp : ∀ xs H k out, pvTold (PvD d) (prR d) xs H k = some out → ∃ o, CallOK Tryd.prog 103 xs H o ∧ k o = some out) (v : VaD) (hw : wfVal (d + 1) v) (hs : szV (d + 1) v ≤ 16777216) (hkd : kdV (d + 1) v) :
    CallOK Tryd.prog 103 [.agg (encVa v)] [] (.ret (.str (prV (d + 1) v)) []) := by
  have hl : PlD d v.list := ⟨wf_list hw hs, hkd.2⟩
  have hk := hkd.1
  have hks : (v.keys.map (fun k => 16 + 16 * k.length)).sum ≤ 16777216 := by unfold szV at hs; omega
  have hL := layAl_ok hp
  obtain ⟨kd, n, t, lf, ln, lr, kf, ks⟩ := v
  obtain ⟨h1, h2⟩ := hk
  obtain ⟨g1, g2, _⟩ := hw
  simp only at h1 h2 g1 g2
  obtain ⟨m, rfl⟩ : ∃ m : Nat, kd = m := ⟨kd.toNat, by omega⟩
  have hm : m < 12 := by omega
  match m, hm with
  | 0, _ => exact hL.callF rfl (fun k => prv_k0 (PvD d) (prR d) (PlD d) (aE1 d) (aE2 d) n t lf ln lr kf ks k)
  | 1, _ => exact hL.callF rfl (fun k => prv_k1 (PvD d) (prR d) (PlD d) (aE1 d) (aE2 d) n t lf ln lr kf ks k)
  | 2, _ => exact hL.callF rfl (fun k => prv_k2 (PvD d) (prR d) (PlD d) (aE1 d) (aE2 d) n t lf ln lr kf ks k)
  | 3, _ => exact hL.callF rfl (fun k => (prv_k3 (PvD d) (prR d) (PlD d) (aE1 d) (aE2 d) n t lf ln lr kf ks k).trans ((congrArg (fun c => cond c _ none) (dT ⟨g1, g2⟩)).trans (cond_true _ _)))
  | 4, _ => exact hL.callF rfl (fun k => prv_k4 (PvD d) (prR d) (PlD d) (aE1 d) (aE2 d) n t lf ln lr kf ks k)
  | 5, _ => exact prv_list5 d hp n t lf ln lr kf ks hl
  | 6, _ => exact prv_list6 d hp n t lf ln lr kf ks hl hks
  | 7, _ => exact hL.callF rfl (fun k => prv_k7 (PvD d) (prR d) (PlD d) (aE1 d) (aE2 d) n t lf ln lr kf ks k)
  | 8, _ => exact hL.callF rfl (fun k => prv_k8 (PvD d) (prR d) (PlD d) (aE1 d) (aE2 d) n t lf ln lr kf ks k)
  | 9, _ => exact hL.callF rfl (fun k => prv_k9 (PvD d) (prR d) (PlD d) (aE1 d) (aE2 d) n t lf ln lr kf ks k)
  | 10, _ => exact hL.callF rfl (fun k => prv_k10 (PvD d) (prR d) (PlD d) (aE1 d) (aE2 d) n t lf ln lr kf ks k)
  | 11, _ => exact hL.callF rfl (fun k => prv_k11 (PvD d) (prR d) (PlD d) (aE1 d) (aE2 d) n t lf ln lr kf ks k)
theorem pvTold_ok : ∀ (d : Nat) xs H k out, pvTold (PvD d) (prR d) xs H k = some out → ∃ o, CallOK Tryd.prog 103 xs H o ∧ k o = some out
  | 0 => vrTold_ok (ok := PvD 0) (post := fun x k => k (.ret (.str (prR 0 x)) [])) fun x h => absurd h.2 (by unfold kdV; exact id)
  | d + 1 => vrTold_ok (ok := PvD (d + 1)) (post := fun x k => k (.ret (.str (prR (d + 1) x)) [])) fun x h => ⟨_, fun k => rfl, by
    obtain ⟨⟨h1, h2, h3⟩, h4⟩ := h
    have h1 : x = encVa (decVa x) := h1
    have key := prv_ok d (pvTold_ok d) (decVa x) h2 h3 h4
    rw [← h1] at key
    exact key⟩
end Go.Mu
set_option linter.unusedVariables false
set_option linter.unusedSimpArgs false
set_option maxRecDepth 100000
namespace Go.Mu
open Go Go.Proofs
noncomputable def ltTold (W : List AVal → Prop) (R : List AVal → List UInt8) : FSp := vrTold W (fun x k => k (.ret (.str (R x)) []))
abbrev LtR := List AVal → AVal → List (List UInt8)
noncomputable def ltSp (V : List AVal → Prop) (Wl : AVal → Prop) (L : LtR) : LSp := mkL (fun vs bs H => (bs.getD 0 [], vs.getD 2 .undef)) (fun a => V a.1 ∧ Wl a.2) (fun a => [.ptr (.tmp 1) 0, .own 0 0 0 0 false, canV a.2, .int .i64 (lnV a.2), .int .i64 0]) (fun a => [a.1]) (fun _ => [.arr 1 [] 0])
  (fun a k => k (.exit 1) [.ptr (.tmp 1) 0, .own 0 0 (L a.1 a.2).length (L a.1 a.2).length false] [a.1] [.arr 1 ((L a.1 a.2).map encS) (L a.1 a.2).length])
noncomputable def ltFH (V : List AVal → Prop) (Wl : AVal → Prop) (L : LtR) : FH := .of [(11, loopSpec 86 [1,3,58,59,60] [1] [1,3] [1] (ltSp V Wl L))]
noncomputable def layLt0 (W : List AVal → Prop) (R : List AVal → List UInt8) (Q : List UInt8 → List UInt8) : Lay := (((Lay.nil.addF 51 (ltTold W R)).addF 96 (pescTold Q)).addF 45 sJoinTold).addF 90 prTold
theorem lt_step (W : List AVal → Prop) (R : List AVal → List UInt8) (Q : List UInt8 → List UInt8) (V : List AVal → Prop) (Wl : AVal → Prop) (L : LtR) (v : VaD) (c : Nat) (os : List (List UInt8)) (f : Bool) (q : Nat) (g : Nat → VaD) (n i : Int) (D : List (FuncId × List AVal)) (k : Kont) (c0 : Bool) (e_c0 : c0 = (decide (0 ≤ i)))
  (m1 : Nat) (e_m1 : m1 = (v.keys.length))
  (n2 : Int) (e_n2 : n2 = ((↑m1 : Int)))
  (c3 : Bool) (e_c3 : c3 = (tst
    (W
        (cellsA
          (AVal.agg
            [AVal.int IntKind.i64 (g i.toNat).kind, AVal.int IntKind.i64 (g i.toNat).int, AVal.str (g i.toNat).text,
              AVal.list (g i.toNat).lf (g i.toNat).ln (g i.toNat).lr,
              AVal.list (g i.toNat).kf (g i.toNat).keys.length fun (i_1 : Nat) =>
                [AVal.str ((g i.toNat).keys.getD i_1 [])]])) ∧
      SubL
          [AVal.agg
              [AVal.int IntKind.i64 (g i.toNat).kind, AVal.int IntKind.i64 (g i.toNat).int, AVal.str (g i.toNat).text,
                AVal.list (g i.toNat).lf (g i.toNat).ln (g i.toNat).lr,
                AVal.list (g i.toNat).kf (g i.toNat).keys.length fun (i_1 : Nat) =>
                  [AVal.str ((g i.toNat).keys.getD i_1 [])]]]
          [AVal.agg
              (cellsA
                (AVal.agg
                  [AVal.int IntKind.i64 (g i.toNat).kind, AVal.int IntKind.i64 (g i.toNat).int,
                    AVal.str (g i.toNat).text, AVal.list (g i.toNat).lf (g i.toNat).ln (g i.toNat).lr,
                    AVal.list (g i.toNat).kf (g i.toNat).keys.length fun (i_1 : Nat) =>
                      [AVal.str ((g i.toNat).keys.getD i_1 [])]]))] ∧
        ([] : Heap) = [])))
  (l4 : List UInt8) (e_l4 : l4 = (R
    (cellsA
      (AVal.agg
        [AVal.int IntKind.i64 (g i.toNat).kind, AVal.int IntKind.i64 (g i.toNat).int, AVal.str (g i.toNat).text,
          AVal.list (g i.toNat).lf (g i.toNat).ln (g i.toNat).lr,
          AVal.list (g i.toNat).kf (g i.toNat).keys.length fun (i_1 : Nat) =>
            [AVal.str ((g i.toNat).keys.getD i_1 [])]]))))
  (m5 : Nat) (e_m5 : m5 = (l4.length))
  (m6 : Nat) (e_m6 : m6 = (c + 1))
  (c7 : Bool) (e_c7 : c7 = (c == c && c == (List.map encS os).length &&
      decide ((2 * m6 + 1000) * 16 ≤ 281474976710656) &&
    true))
  (l8 : List UInt8) (e_l8 : l8 = (v.keys.getD i.toNat []))
  (l9 : List UInt8) (e_l9 : l9 = (Q l8))
  (l10 : List UInt8) (e_l10 : l10 = (l9.append [58])) : lturn Tryd.prog (layLt0 W R Q) (ltFH V Wl L) 51 11 [1,3,58,59,60] [1] [1,3] [1] (stL 86 [1,3,58,59,60] [.ptr (.tmp 1) 0, .own 0 0 c c false, .list f q (fun i => encVa (g i)), .int .i64 n, .int .i64 i] [1] [encVa v] [.arr 1 (os.map encS) c] D) k = (
  bif decide (i < n) then
  bif c0 && decide (i < (↑q : Int)) then
  bif bif v.kind != 6 then true else decide (i ≥ n2) then
  bif c3 then
  bif decide (0 + m5 ≤ 4611686018427387904) then
  bif c7 then
  k AExit.normal
  (stL 86 [1, 3, 58, 59, 60]
  [AVal.ptr (Oid.tmp 1) 0, AVal.own 0 0 m6 m6 false, AVal.list f q fun (i : Nat) => encVa (g i),
  AVal.int IntKind.i64 n, AVal.int IntKind.i64 (IntKind.i64.wrap (i + 1))]
  [1]
  [[AVal.int IntKind.i64 v.kind, AVal.int IntKind.i64 v.int, AVal.str v.text, AVal.list v.lf v.ln v.lr,
  AVal.list v.kf m1 fun (i : Nat) => [AVal.str (v.keys.getD i [])]]]
  [Obj.arr 1 ((List.map encS os).append [[AVal.str l4]]) m6] D)
  else none
  else none
  else none
  else
  bif c0 && decide (i < n2) then
  bif decide (l8.length ≤ 26843545) then
  bif decide (l9.length + 1 ≤ 4611686018427387904) then
  bif c3 then
  bif decide (l10.length + m5 ≤ 4611686018427387904) then
  bif c7 then
  k AExit.normal
  (stL 86 [1, 3, 58, 59, 60]
  [AVal.ptr (Oid.tmp 1) 0, AVal.own 0 0 m6 m6 false, AVal.list f q fun (i : Nat) => encVa (g i),
  AVal.int IntKind.i64 n, AVal.int IntKind.i64 (IntKind.i64.wrap (i + 1))]
  [1]
  [[AVal.int IntKind.i64 v.kind, AVal.int IntKind.i64 v.int, AVal.str v.text,
  AVal.list v.lf v.ln v.lr, AVal.list v.kf m1 fun (i : Nat) => [AVal.str (v.keys.getD i [])]]]
  [Obj.arr 1
  ((List.map encS os).append [[AVal.str (l10.append l4)]]) m6]
  D)
  else none
  else none
  else none
  else none
  else none
  else none
  else none
  else
  k (AExit.exit 1)
  (stL 86 [1, 3] [AVal.ptr (Oid.tmp 1) 0, AVal.own 0 0 c c false] [1]
  [[AVal.int IntKind.i64 v.kind, AVal.int IntKind.i64 v.int, AVal.str v.text, AVal.list v.lf v.ln v.lr,
  AVal.list v.kf m1 fun (i : Nat) => [AVal.str (v.keys.getD i [])]]]
        [Obj.arr 1 (List.map encS os) c] D)) := by
  subst e_c0 e_m1 e_n2 e_c3 e_l4 e_m5 e_m6 e_c7 e_l8 e_l9 e_l10
  kernel_rfl
noncomputable def layLt (W : List AVal → Prop) (R : List AVal → List UInt8) (Q : List UInt8 → List UInt8) (V : List AVal → Prop) (Wl : AVal → Prop) (L : LtR) : Lay := (layLt0 W R Q).addL 51 (ltFH V Wl L)
theorem lit_fun (W : List AVal → Prop) (R : List AVal → List UInt8) (Q : List UInt8 → List UInt8) (V : List AVal → Prop) (Wl : AVal → Prop) (L : LtR) (v : VaD) (k : Out → Ans) : iFun Tryd.prog ((layLt W R Q V Wl L).hd Tryd.prog) (layLt W R Q V Wl L).fhs 0 51 [.agg (encVa v)] [] k = (
 let c0 : Bool := decide (v.kind < 3);
 let c1 : Bool := v.kind == 3;
 let c2 : Bool := decide (-9223372036854775808 ≤ v.int ∧ v.int ≤ 9223372036854775807);
 let n3 : Int := (↑v.ln : Int);
 let m4 : Nat :=
  (L
  [AVal.int IntKind.i64 v.kind, AVal.int IntKind.i64 v.int, AVal.str v.text, AVal.list v.lf v.ln v.lr,
  AVal.list v.kf v.keys.length fun (i : Nat) => [AVal.str (v.keys.getD i [])]]
  (AVal.list v.lf v.ln v.lr)).length;
 let m5 : Nat :=
  (decL decS
  (AVal.list false m4 fun (i : Nat) =>
  (List.map encS
  (L
  [AVal.int IntKind.i64 v.kind, AVal.int IntKind.i64 v.int, AVal.str v.text, AVal.list v.lf v.ln v.lr,
  AVal.list v.kf v.keys.length fun (i : Nat) => [AVal.str (v.keys.getD i [])]]
  (AVal.list v.lf v.ln v.lr))).getD
  (0 + i) [])).length;
 let l6 : List UInt8 :=
  Lib.join
  (decL decS
  (AVal.list false m4 fun (i : Nat) =>
  (List.map encS
  (L
  [AVal.int IntKind.i64 v.kind, AVal.int IntKind.i64 v.int, AVal.str v.text, AVal.list v.lf v.ln v.lr,
  AVal.list v.kf v.keys.length fun (i : Nat) => [AVal.str (v.keys.getD i [])]]
  (AVal.list v.lf v.ln v.lr))).getD
  (0 + i) []))
  [44];
 let m7 : Nat := l6.length;
 let c8 : Bool := decide (1 + m7 ≤ 4611686018427387904);
  bif bif decide (v.kind ≥ 0) then c0 else false then
  bif decide (0 ≤ v.kind) && c0 then
  bif
  decide
  (1 ≤
  ([[AVal.str [110, 117, 108, 108]], [AVal.str [102, 97, 108, 115, 101]],
  [AVal.str [116, 114, 117, 101]]].getD
  v.kind.toNat []).length) &&
  isStr
  (([[AVal.str [110, 117, 108, 108]], [AVal.str [102, 97, 108, 115, 101]],
  [AVal.str [116, 114, 117, 101]]].getD
  v.kind.toNat []).getD
  0 AVal.undef) then
  k
  (Out.ret
  (AVal.str
  (strOf
  (([[AVal.str [110, 117, 108, 108]], [AVal.str [102, 97, 108, 115, 101]],
  [AVal.str [116, 114, 117, 101]]].getD
  v.kind.toNat []).getD
  0 AVal.undef)))
  [])
  else none
  else none
  else
  bif bif c1 then decide (v.int < 0) else false then
  bif c2 then
  bif decide (1 + (printM v.int).length ≤ 4611686018427387904) then k (Out.ret (AVal.str (32 :: printM v.int)) [])
  else none
  else none
  else
  bif c1 then bif c2 then k (Out.ret (AVal.str (printM v.int)) []) else none
  else
  bif bif v.kind != 5 then v.kind != 6 else false then
  bif decide (v.text.length ≤ 26843545) then k (Out.ret (AVal.str (Q v.text)) []) else none
  else
  bif decide (16 * n3 ≤ 281474976710656) && decide (n3 ≤ 9223372036854775807) then
  bif
  tst
  ((V
  [AVal.int IntKind.i64 v.kind, AVal.int IntKind.i64 v.int, AVal.str v.text,
  AVal.list v.lf v.ln v.lr,
  AVal.list v.kf v.keys.length fun (i : Nat) => [AVal.str (v.keys.getD i [])]] ∧
  Wl (AVal.list v.lf v.ln v.lr)) ∧
  SubTL
  [AVal.ptr (Oid.tmp 1) 0, AVal.own 0 0 0 0 false, AVal.list v.lf v.ln v.lr,
  AVal.int IntKind.i64 n3, AVal.int IntKind.i64 0]
  [AVal.ptr (Oid.tmp 1) 0, AVal.own 0 0 0 0 false, canV (AVal.list v.lf v.ln v.lr),
  AVal.int IntKind.i64 (↑(lnV (AVal.list v.lf v.ln v.lr)) : Int), AVal.int IntKind.i64 0] ∧
  [[AVal.int IntKind.i64 v.kind, AVal.int IntKind.i64 v.int, AVal.str v.text,
  AVal.list v.lf v.ln v.lr,
  AVal.list v.kf v.keys.length fun (i : Nat) => [AVal.str (v.keys.getD i [])]]] =
  [[AVal.int IntKind.i64 v.kind, AVal.int IntKind.i64 v.int, AVal.str v.text,
  AVal.list v.lf v.ln v.lr,
  AVal.list v.kf v.keys.length fun (i : Nat) => [AVal.str (v.keys.getD i [])]]] ∧
  [Obj.arr 1 [] 0] = [Obj.arr 1 [] 0]) then
  bif
  (m4 == m4 &&
  decide
  (0 + m4 ≤
  (List.map encS
  (L
  [AVal.int IntKind.i64 v.kind, AVal.int IntKind.i64 v.int, AVal.str v.text,
  AVal.list v.lf v.ln v.lr,
  AVal.list v.kf v.keys.length fun (i : Nat) => [AVal.str (v.keys.getD i [])]]
  (AVal.list v.lf v.ln v.lr))).length) &&
  (List.map encS
  (L
  [AVal.int IntKind.i64 v.kind, AVal.int IntKind.i64 v.int, AVal.str v.text,
  AVal.list v.lf v.ln v.lr,
  AVal.list v.kf v.keys.length fun (i : Nat) => [AVal.str (v.keys.getD i [])]]
  (AVal.list v.lf v.ln v.lr))).all
  fun (r : List AVal) => r.all isPure) &&
  true then
  bif
  tst
  ((m5 ≤ 140737488355328 ∧ m7 ≤ 140737488355328) ∧
  SubL
  [AVal.list false m4 fun (i : Nat) =>
  (List.map encS
  (L
  [AVal.int IntKind.i64 v.kind, AVal.int IntKind.i64 v.int, AVal.str v.text,
  AVal.list v.lf v.ln v.lr,
  AVal.list v.kf v.keys.length fun (i : Nat) => [AVal.str (v.keys.getD i [])]]
  (AVal.list v.lf v.ln v.lr))).getD
  (0 + i) [],
  AVal.str [44]]
  [AVal.list false m5 fun (i : Nat) =>
  [AVal.str
  ((decL decS
  (AVal.list false
  (L
  [AVal.int IntKind.i64 v.kind, AVal.int IntKind.i64 v.int, AVal.str v.text,
  AVal.list v.lf v.ln v.lr,
  AVal.list v.kf v.keys.length fun (i : Nat) =>
  [AVal.str (v.keys.getD i [])]]
  (AVal.list v.lf v.ln v.lr)).length
  fun (i : Nat) =>
  (List.map encS
  (L
  [AVal.int IntKind.i64 v.kind, AVal.int IntKind.i64 v.int,
  AVal.str v.text, AVal.list v.lf v.ln v.lr,
  AVal.list v.kf v.keys.length fun (i : Nat) =>
  [AVal.str (v.keys.getD i [])]]
  (AVal.list v.lf v.ln v.lr))).getD
  (0 + i) [])).getD
  i [])],
  AVal.str [44]] ∧
  ([] : Heap) = []) then
  bif v.kind == 6 then
  bif c8 then
  bif decide ((123 :: l6).length + 1 ≤ 4611686018427387904) then
  k
  (Out.ret (AVal.str (123 :: (l6 ++ [125])))
  [Obj.arr 1
  (List.map encS
  (L
  [AVal.int IntKind.i64 v.kind, AVal.int IntKind.i64 v.int, AVal.str v.text,
  AVal.list v.lf v.ln v.lr,
  AVal.list v.kf v.keys.length fun (i : Nat) => [AVal.str (v.keys.getD i [])]]
  (AVal.list v.lf v.ln v.lr)))
  m4])
  else none
  else none
  else
  bif c8 then
  bif decide ((91 :: l6).length + 1 ≤ 4611686018427387904) then
  k
  (Out.ret (AVal.str (91 :: (l6 ++ [93])))
  [Obj.arr 1
  (List.map encS
  (L
  [AVal.int IntKind.i64 v.kind, AVal.int IntKind.i64 v.int, AVal.str v.text,
  AVal.list v.lf v.ln v.lr,
  AVal.list v.kf v.keys.length fun (i : Nat) => [AVal.str (v.keys.getD i [])]]
  (AVal.list v.lf v.ln v.lr)))
  m4])
  else none
  else none
  else none
  else none
  else none
  else none) := by kernel_rfl
end Go.Mu
set_option linter.unusedVariables false
set_option linter.unusedSimpArgs false
set_option maxRecDepth 100000
namespace Go.Mu
open Go Go.Proofs
/- what is written -/
def lKey (v : VaD) (i : Nat) : List UInt8 := if v.kind = 6 ∧ i < v.keys.length then quoP (v.keys.getD i []) ++ [58] else []
def lItem (R : VaD → List UInt8) (v : VaD) (l : List VaD) (i : Nat) : List UInt8 := lKey v i ++ R (l.getD i va0)
def lItems (R : VaD → List UInt8) (v : VaD) (l : List VaD) : List (List UInt8) := (List.range l.length).map (lItem R v l)
def litL (v : VaD) (s : List UInt8) : List UInt8 := if v.kind = 6 then 123 :: (s ++ [125]) else 91 :: (s ++ [93])
def litV : Nat → VaD → List UInt8
  | 0, _ => []
  | d + 1, v => if v.kind = 0 then [110, 117, 108, 108] else if v.kind = 1 then [102, 97, 108, 115, 101] else if v.kind = 2 then [116, 114, 117, 101] else if v.kind = 3 then (if v.int < 0 then 32 :: printM v.int else printM v.int)
    else if v.kind = 5 ∨ v.kind = 6 then litL v (Lib.join (lItems (litV d) v (vals v.list)) [44]) else quoP v.text
theorem join_le (b : UInt8) : ∀ (l : List (List UInt8)), (Lib.join l [b]).length ≤ (l.map (fun x => x.length + 1)).sum
  | [] => by simp [Lib.join_nil]
  | [x] => by simp [Lib.join_one]
  | x :: y :: l => by
    have ih := join_le b (y :: l)
    have e : Lib.join (x :: y :: l) [b] = x ++ [b] ++ Lib.join (y :: l) [b] := by
      unfold Lib.join
      simp [List.intercalate, List.intersperse]
    rw [e, List.map_cons, List.sum_cons, List.length_append, List.length_append]
    simp only [List.length_singleton]
    omega
theorem lKey_len (v : VaD) (i : Nat) : (lKey v i).length ≤ if i < v.keys.length then 3 + 12 * (v.keys.getD i []).length else 0 := by
  unfold lKey
  have := quoP_len (v.keys.getD i [])
  split
  · rename_i h; rw [if_pos h.2, List.length_append]; simp only [List.length_singleton]; omega
  · simp
theorem lItems_len (v : VaD) (R : VaD → List UInt8) (S : VaD → Nat) (l : List VaD) (hR : ∀ v ∈ l, (R v).length + 8 ≤ S v) : ∀ i, i ≤ l.length →
    (((List.range i).map (lItem R v l)).map (fun x => x.length + 1)).sum ≤ ((l.take i).map S).sum + ((v.keys.take i).map (fun k => 16 + 16 * k.length)).sum := by
  intro i
  induction i with
  | zero => intro _; simp
  | succ i ih =>
    intro hi
    have ih := ih (by omega)
    rw [List.range_succ, List.map_append, List.map_append, List.sum_append, take_sum S l va0 i (by omega)]
    have hm : l.getD i va0 ∈ l := by rw [List.getD_eq_getElem?_getD, List.getElem?_eq_getElem (by omega)]; exact List.getElem_mem _
    have h1 := hR _ hm
    have h3 := lKey_len v i
    have h4 : (lItem R v l i).length = (lKey v i).length + (R (l.getD i va0)).length := List.length_append
    simp only [List.map_cons, List.map_nil, List.sum_cons, List.sum_nil]
    by_cases hk : i < v.keys.length
    · rw [take_sum (fun k : List UInt8 => 16 + 16 * k.length) v.keys [] i hk]
      rw [if_pos hk] at h3
      omega
    · rw [if_neg hk] at h3
      rw [List.take_of_length_le (by omega : v.keys.length ≤ i + 1)]
      rw [List.take_of_length_le (by omega : v.keys.length ≤ i)] at ih
      omega
theorem lJoin_len (v : VaD) (R : VaD → List UInt8) (S : VaD → Nat) (l : List VaD) (hR : ∀ v ∈ l, (R v).length + 8 ≤ S v) : (Lib.join (lItems R v l) [44]).length ≤ (l.map S).sum + (v.keys.map (fun k => 16 + 16 * k.length)).sum := by
  have h := lItems_len v R S l hR l.length (Nat.le_refl _)
  rw [List.take_of_length_le (Nat.le_refl _)] at h
  have := take_sum_le (fun k : List UInt8 => 16 + 16 * k.length) v.keys l.length
  have := join_le 44 (lItems R v l)
  unfold lItems at *
  omega
theorem litV_len : ∀ (d : Nat) (v : VaD), (litV d v).length + 8 ≤ szV d v
  | 0, v => by unfold litV szV; simp
  | d + 1, v => by
    have h1 := lJoin_len v (litV d) (szV d) (vals v.list) (fun v _ => litV_len d v)
    have h2 := quoP_len v.text
    have h3 := printM_len v.int
    unfold litV szV litL
    repeat' split
    all_goals first
      | (simp only [List.length_cons, List.length_nil]; omega)
      | (simp only [List.length_append, List.length_cons, List.length_nil]; omega)
      | omega
def ltR (d : Nat) (x : List AVal) : List UInt8 := litV d (decVa x)
theorem ltR_enc (d : Nat) (v : VaD) : ltR d (encVa v) = litV d v := by unfold ltR; rw [decVa_enc]
def lL (d : Nat) : LtR := fun c x => lItems (litV d) (decVa c) (vals x)
def kbV (x : List AVal) : Prop := isV x ∧ ((decVa x).keys.map (fun k => 16 + 16 * k.length)).sum ≤ 16777216
noncomputable abbrev ltTurn (d : Nat) := lturn Tryd.prog (layLt0 (WvD d) (ltR d) quoP) (ltFH kbV (WlD d) (lL d)) 51 11 [1,3,58,59,60] [1] [1,3] [1]
theorem lt_rd (d : Nat) (v : VaD) (hk : ∀ i, (v.keys.getD i []).length ≤ 4194304) (os : List (List UInt8)) (f : Bool) (l : List VaD) (hl : l.length ≤ 1048576) (i : Nat) (ho : os.length = i) (hi : i < l.length) (hW : wfVal d (l.getD i va0) ∧ szV d (l.getD i va0) ≤ 16777216) (D : List (FuncId × List AVal)) (k : Kont) :
    ltTurn d (stL 86 [1,3,58,59,60] [.ptr (.tmp 1) 0, .own 0 0 i i false, encVas f l, .int .i64 l.length, .int .i64 (i : Nat)] [1] [encVa v] [.arr 1 (os.map encS) i] D) k = k .normal (stL 86 [1,3,58,59,60] [.ptr (.tmp 1) 0, .own 0 0 (i + 1) (i + 1) false, encVas f l, .int .i64 l.length, .int .i64 ((i + 1 : Nat) : Int)] [1] [encVa v] [.arr 1 ((os ++ [lItem (litV d) v l i]).map encS) (i + 1)] D) := by
  have hp := litV_len d (l.getD i va0)
  have hki := hk i
  have hq := quoP_len (v.keys.getD i [])
  have el : (quoP (v.keys.getD i []) ++ [58]).length = (quoP (v.keys.getD i [])).length + 1 := by rw [List.length_append]; rfl
  have e1 : IntKind.i64.wrap ((i : Int) + 1) = ((i + 1 : Nat) : Int) := wrap_add1 (by omega)
  have hq2 : (i == (List.map encS os).length) = true := by rw [List.length_map, ho]; exact beq_self_eq_true _
  have e7 : decide ((2 * (i + 1) + 1000) * 16 ≤ 281474976710656) = true := dT (by omega)
  refine (lt_step (WvD d) (ltR d) quoP kbV (WlD d) (lL d) v i os f l.length (fun i => l.getD i va0) l.length i D k _ rfl _ rfl _ rfl _ rfl (litV d (l.getD i va0)) (ltR_enc d _).symm _ rfl (i + 1) rfl true (by rw [beq_self_eq_true, hq2, e7]; rfl) (v.keys.getD i []) (by rw [Int.toNat_natCast]) _ rfl (quoP (v.keys.getD i []) ++ [58]) rfl).trans ?_
  simp only [e1, dT (show (i : Int) < l.length by omega), dT (show (0 : Int) ≤ (i : Int) by omega), Bool.and_self, cond_true, Int.toNat_natCast]
  rw [List.map_append]
  unfold lItem lKey
  by_cases h6 : v.kind = 6 ∧ i < v.keys.length
  · have hb : (bif v.kind != 6 then true else decide ((i : Int) ≥ (v.keys.length : Int))) = false := by
      rw [h6.1, dF (show ¬ (i : Int) ≥ (v.keys.length : Int) by omega)]; rfl
    rw [hb, cond_false, if_pos h6]
    refine (congrArg (fun c => cond c _ none) (dT (show (i : Int) < (v.keys.length : Int) by omega))).trans ((cond_true _ _).trans ?_)
    refine (congrArg (fun c => cond c _ none) (dT (show (v.keys.getD i []).length ≤ 26843545 by omega))).trans ((cond_true _ _).trans ?_)
    refine (congrArg (fun c => cond c _ none) (dT (show (quoP (v.keys.getD i [])).length + 1 ≤ 4611686018427387904 by omega))).trans ((cond_true _ _).trans ?_)
    refine (congrArg (fun c => cond c _ none) (tst_true ⟨WvD_enc hW.1 hW.2, .refl _, by trivial⟩)).trans ((cond_true _ _).trans ?_)
    exact (congrArg (fun c => cond c _ none) (dT (by omega))).trans rfl
  · have hb : (bif v.kind != 6 then true else decide ((i : Int) ≥ (v.keys.length : Int))) = true := by
      by_cases h : v.kind = 6
      · rw [h, dT (show (i : Int) ≥ (v.keys.length : Int) by omega)]; rfl
      · have : (v.kind != 6) = true := by simpa using h
        rw [this]; rfl
    rw [hb, cond_true, if_neg h6]
    refine (congrArg (fun c => cond c _ none) (tst_true ⟨WvD_enc hW.1 hW.2, .refl _, by trivial⟩)).trans ((cond_true _ _).trans ?_)
    exact (congrArg (fun c => cond c _ none) (dT (by omega))).trans rfl
theorem ltSp_ok (d : Nat) : SpOK (ltTurn d) 86 [1,3,58,59,60] [1] [1,3] [1] (ltSp kbV (WlD d) (lL d)) := mkL_ok fun a h => by
  obtain ⟨c, x⟩ := a
  obtain ⟨h1, h3⟩ := h
  simp only at h1 h3
  have hl := WlD_len h3
  obtain ⟨hv, hk⟩ := h1
  have hv : c = encVa (decVa c) := hv
  generalize hvd : decVa c = v at hv hk
  subst hv
  have hW : ∀ i, i < (vals x).length → wfVal d ((vals x).getD i va0) ∧ szV d ((vals x).getD i va0) ≤ 16777216 := fun i hi => WlD_mem h3 (by rw [List.getD_eq_getElem?_getD, List.getElem?_eq_getElem hi]; exact List.getElem_mem hi)
  have hki : ∀ i, (v.keys.getD i []).length ≤ 4194304 := fun i => by
    rw [List.getD_eq_getElem?_getD]
    by_cases hi : i < v.keys.length
    · rw [List.getElem?_eq_getElem hi]
      have := sum_mem (fun k : List UInt8 => 16 + 16 * k.length) v.keys _ (List.getElem_mem hi)
      simp only [Option.getD_some]
      omega
    · rw [List.getElem?_eq_none (by omega)]; simp
  have eL : lL d (encVa v) x = (List.range (vals x).length).map (lItem (litV d) v (vals x)) := by unfold lL lItems; rw [decVa_enc]
  have eLl : (lL d (encVa v) x).length = (vals x).length := by rw [eL]; simp
  refine ⟨.exit 1, [.ptr (.tmp 1) 0, .own 0 0 (vals x).length (vals x).length false], [encVa v], [.arr 1 (((List.range (vals x).length).map (lItem (litV d) v (vals x))).map encS) (vals x).length], fun k => ?_, ?_⟩
  · show k (.exit 1) [.ptr (.tmp 1) 0, .own 0 0 (lL d (encVa v) x).length (lL d (encVa v) x).length false] [encVa v] [.arr 1 ((lL d (encVa v) x).map encS) (lL d (encVa v) x).length] = _
    rw [eLl, eL]
  exact seq_runs (turn := ltTurn d) (n := 86) (l := [1,3,58,59,60]) (m := [1]) (lx := [1,3]) (mx := [1]) (fun i => [.ptr (.tmp 1) 0, .own 0 0 i i false, encVas (fullOf x) (vals x), .int .i64 (vals x).length, .int .i64 (i : Nat)]) (fun _ => [encVa v]) (fun i => [.arr 1 (((List.range i).map (lItem (litV d) v (vals x))).map encS) i]) (vals x).length (e := .exit 1) (by simp)
      (fun i hi D k => by
        refine (lt_rd d v hki _ (fullOf x) (vals x) (by omega) i (by simp) hi (hW i hi) D k).trans ?_
        rw [List.range_succ, List.map_append (f := lItem (litV d) v (vals x))]
        rfl)
      (fun D k => by
        refine (lt_step (WvD d) (ltR d) quoP kbV (WlD d) (lL d) v (vals x).length _ (fullOf x) (vals x).length (fun i => (vals x).getD i va0) (vals x).length (vals x).length D k _ rfl _ rfl _ rfl _ rfl _ rfl _ rfl _ rfl _ rfl _ rfl _ rfl _ rfl).trans ?_
        rw [dF (show ¬ ((vals x).length : Int) < (vals x).length by omega), cond_false]
        rfl)
end Go.Mu
set_option linter.unusedVariables false
set_option linter.unusedSimpArgs false
set_option maxRecDepth 100000
namespace Go.Mu
open Go Go.Proofs
theorem dec_own (ls : List (List UInt8)) : decL decS (AVal.list false ls.length fun (i : Nat) => (List.map encS ls).getD (0 + i) []) = ls := by
  unfold decL
  simp only [Nat.zero_add]
  refine Eq.trans (List.map_congr_left (g := fun i => ls.getD i []) fun i hi => ?_) (range_getD ls [])
  have hi : i < ls.length := by simpa using hi
  rw [List.getD_eq_getElem?_getD, List.getElem?_map, List.getElem?_eq_getElem hi, List.getD_eq_getElem?_getD, List.getElem?_eq_getElem hi]
  rfl
theorem sub_own (ls : List (List UInt8)) : Sub (AVal.list false ls.length fun (i : Nat) => (List.map encS ls).getD (0 + i) []) (AVal.list false ls.length fun (i : Nat) => [AVal.str (ls.getD i [])]) := by
  refine Sub.list (fun h => h) (fun i hi => ?_)
  rw [Nat.zero_add, List.getD_eq_getElem?_getD, List.getElem?_map, List.getElem?_eq_getElem hi, List.getD_eq_getElem?_getD, List.getElem?_eq_getElem hi]
  exact .refl _
theorem all_own (ls : List (List UInt8)) : (ls.length == ls.length && decide (0 + ls.length ≤ (List.map encS ls).length) && (List.map encS ls).all (fun (r : List AVal) => r.all isPure) && true) = true := by
  rw [beq_self_eq_true, dT (show 0 + ls.length ≤ (List.map encS ls).length by rw [List.length_map]; omega)]
  have : (List.map encS ls).all (fun (r : List AVal) => r.all isPure) = true := by
    refine List.all_eq_true.2 (fun r hr => ?_)
    obtain ⟨s, _, rfl⟩ := List.mem_map.1 hr
    rfl
  rw [this]; rfl
theorem layLt0_ok {d : Nat} (h : ∀ xs H k out, ltTold (WvD d) (ltR d) xs H k = some out → ∃ o, CallOK Tryd.prog 51 xs H o ∧ k o = some out) : (layLt0 (WvD d) (ltR d) quoP).OK Tryd.prog :=
  (((Lay.nil_ok.addF h).addF quoTold_ok).addF sJoinTold_ok).addF prTold_ok
theorem layLt_ok {d : Nat} (h : ∀ xs H k out, ltTold (WvD d) (ltR d) xs H k = some out → ∃ o, CallOK Tryd.prog 51 xs H o ∧ k o = some out) : (layLt (WvD d) (ltR d) quoP kbV (WlD d) (lL d)).OK Tryd.prog :=
  (layLt0_ok h).loop1 (id := 11) (by kernel_rfl) (by kernel_rfl) (by kernel_rfl) (ltSp_ok d)
theorem lit_ok (d : Nat) (hp : ∀ xs H k out, ltTold (WvD d) (ltR d) xs H k = some out → ∃ o, CallOK Tryd.prog 51 xs H o ∧ k o = some out) (v : VaD) (hw : wfVal (d + 1) v) (hs : szV (d + 1) v ≤ 16777216) :
    CallOK Tryd.prog 51 [.agg (encVa v)] [] (.ret (.str (litV (d + 1) v)) []) := by
  have hL := layLt_ok hp
  have hl := wf_list hw hs
  have hks : (v.keys.map (fun k => 16 + 16 * k.length)).sum ≤ 16777216 := by unfold szV at hs; omega
  have hkb : kbV (encVa v) := ⟨isV_enc v, by rw [decVa_enc]; exact hks⟩
  have htx : v.text.length ≤ 26843545 := by unfold szV at hs; omega
  have hlen := lJoin_len v (litV d) (szV d) (vals v.list) (fun v _ => litV_len d v)
  have hjs : (Lib.join (lItems (litV d) v (vals v.list)) [44]).length ≤ 134217728 := by
    have := hl.2.2
    omega
  have hn := WlD_len hl
  have e : lnV (AVal.list v.lf v.ln v.lr) = v.ln := lnV_eq (d := d) hl
  have hln : v.ln ≤ 1048576 := by rw [← e]; exact hn
  have hpl := printM_len v.int
  have eL : lL d [AVal.int IntKind.i64 v.kind, AVal.int IntKind.i64 v.int, AVal.str v.text, AVal.list v.lf v.ln v.lr, AVal.list v.kf v.keys.length fun (i : Nat) => [AVal.str (v.keys.getD i [])]] (AVal.list v.lf v.ln v.lr) = lItems (litV d) v (vals v.list) := by
    show lItems (litV d) (decVa (encVa v)) (vals v.list) = _
    rw [decVa_enc]
  have hil : (lItems (litV d) v (vals v.list)).length ≤ 140737488355328 := by unfold lItems; rw [List.length_map, List.length_range]; omega
  have key := fun k => lit_fun (WvD d) (ltR d) quoP kbV (WlD d) (lL d) v k
  simp only [eL, dec_own] at key
  unfold litV
  by_cases h0 : v.kind = 0
  · rw [if_pos h0]
    refine hL.callF (G := []) rfl (fun k => (key k).trans ?_)
    rw [h0]; rfl
  rw [if_neg h0]
  by_cases h1 : v.kind = 1
  · rw [if_pos h1]
    refine hL.callF (G := []) rfl (fun k => (key k).trans ?_)
    rw [h1]; rfl
  rw [if_neg h1]
  by_cases h2 : v.kind = 2
  · rw [if_pos h2]
    refine hL.callF (G := []) rfl (fun k => (key k).trans ?_)
    rw [h2]; rfl
  rw [if_neg h2]
  have hb0 : (bif decide (v.kind ≥ 0) then decide (v.kind < 3) else false) = false := by
    by_cases hg : v.kind ≥ 0
    · rw [dF (show ¬ v.kind < 3 by omega), Bool.cond_self]
    · rw [dF hg]; rfl
  by_cases h3 : v.kind = 3
  · rw [if_pos h3]
    have hi : decide (-9223372036854775808 ≤ v.int ∧ v.int ≤ 9223372036854775807) = true := dT ⟨hw.1, hw.2.1⟩
    refine hL.callF (G := []) rfl (fun k => (key k).trans ?_)
    have e3 : (v.kind == 3) = true := by rw [h3]; rfl
    rw [hb0, e3, hi]
    by_cases hng : v.int < 0
    · rw [if_pos hng, dT hng, dT (show 1 + (printM v.int).length ≤ 4611686018427387904 by omega)]; rfl
    · rw [if_neg hng, dF hng]; rfl
  rw [if_neg h3]
  have e3 : (v.kind == 3) = false := beq_false_of_ne h3
  by_cases h56 : v.kind = 5 ∨ v.kind = 6
  · rw [if_pos h56]
    have hb5 : (bif v.kind != 5 then v.kind != 6 else false) = false := by
      rcases h56 with h | h <;> rw [h] <;> rfl
    simp only [hb0, e3, hb5, cond_false] at key
    replace key := fun k => (key k).trans
      ((congrArg (fun c => cond c _ none) (show (decide (16 * (v.ln : Int) ≤ 281474976710656) && decide ((v.ln : Int) ≤ 9223372036854775807)) = true by rw [dT (by omega), dT (by omega)]; rfl)).trans ((cond_true _ _).trans
      ((congrArg (fun c => cond c _ none) (tst_true ⟨⟨hkb, hl⟩, (by rw [e]; exact .cons (.refl _) (.cons (.refl _) (.cons (canV_sub hl) (.refl _)))), by trivial⟩)).trans ((cond_true _ _).trans
      ((congrArg (fun c => cond c _ none) (all_own _)).trans ((cond_true _ _).trans
      ((congrArg (fun c => cond c _ none) (tst_true ⟨⟨hil, by omega⟩, .cons (sub_own _) (.refl _), by trivial⟩)).trans (cond_true _ _))))))))
    unfold litL
    by_cases h6 : v.kind = 6
    · have e6 : (v.kind == 6) = true := by rw [h6]; rfl
      rw [if_pos h6]
      simp only [e6, cond_true] at key
      exact hL.callF rfl (fun k => (key k).trans ((congrArg (fun c => cond c _ none) (dT (by omega))).trans ((cond_true _ _).trans ((congrArg (fun c => cond c _ none) (dT (by rw [List.length_cons]; omega))).trans (cond_true _ _)))))
    · have e6 : (v.kind == 6) = false := beq_false_of_ne h6
      rw [if_neg h6]
      simp only [e6, cond_false] at key
      exact hL.callF rfl (fun k => (key k).trans ((congrArg (fun c => cond c _ none) (dT (by omega))).trans ((cond_true _ _).trans ((congrArg (fun c => cond c _ none) (dT (by rw [List.length_cons]; omega))).trans (cond_true _ _)))))
  · rw [if_neg h56]
    have hb5 : (bif v.kind != 5 then v.kind != 6 else false) = true := by
      have a : (v.kind != 5) = true := by simp; omega
      have b : (v.kind != 6) = true := by simp; omega
      rw [a, b]; rfl
    refine hL.callF (G := []) rfl (fun k => (key k).trans ?_)
    rw [hb0, e3, hb5, dT htx]
    rfl
theorem ltTold_ok : ∀ (d : Nat) xs H k out, ltTold (WvD d) (ltR d) xs H k = some out → ∃ o, CallOK Tryd.prog 51 xs H o ∧ k o = some out
  | 0 => vrTold_ok (ok := WvD 0) (post := fun x k => k (.ret (.str (ltR 0 x)) [])) fun x h => absurd h.2.1 (by unfold wfVal; exact id)
  | d + 1 => vrTold_ok (ok := WvD (d + 1)) (post := fun x k => k (.ret (.str (ltR (d + 1) x)) [])) fun x h => ⟨_, fun k => rfl, by
    obtain ⟨h1, h2, h3⟩ := h
    have h1 : x = encVa (decVa x) := h1
    have key := lit_ok d (ltTold_ok d) (decVa x) h2 h3
    rw [← h1] at key
    exact key⟩
end Go.Mu
set_option linter.unusedVariables false
set_option linter.unusedSimpArgs false
set_option maxRecDepth 100000
namespace Go.Mu
open Go Go.Proofs
def fSS (R : List UInt8 → List UInt8) (n : Nat) : FSp := mkFS [.s] (fun xs => decide ((aS xs 0).length ≤ n)) (fun xs k => k (.ret (.str (R (aS xs 0))) []))
def okE (s : List UInt8) : Bool := decide (s.length ≤ 17592186044416 ∧ (rpP s).length ≤ 107374182)
def fSE (R : List UInt8 → List UInt8) : FSp := mkFS [.s] (fun xs => okE (aS xs 0)) (fun xs k => k (.ret (.str (R (aS xs 0))) []))
def laySf (N : List UInt8 → List UInt8) : Lay := (Lay.nil.addF 69 schTold).addF 99 (fSS N 26843545)
theorem schF_fun (N : List UInt8 → List UInt8) (s : List UInt8) (k : Out → Ans) : iFun Tryd.prog ((laySf N).hd Tryd.prog) (laySf N).fhs 0 98 [.str s] [] k = (
 let l0 : List UInt8 := (schemeM s).fst;
  bif decide (s.length ≤ 1099511627776) then
  bif
  bif (schemeM s).snd then
  !bif bif l0 == [104, 116, 116, 112] then true else l0 == [104, 116, 116, 112, 115] then true
  else l0 == [109, 97, 105, 108, 116, 111]
  else false then
  k (Out.ret (AVal.str [35, 90, 103, 111, 116, 109, 112, 108, 90]) [])
  else bif decide (s.length ≤ 26843545) then k (Out.ret (AVal.str (N s)) []) else none
  else none) := by kernel_rfl
noncomputable def layTo (W : List AVal → Prop) (R : List AVal → List UInt8) : Lay := Lay.nil.addF 103 (pvTold W R)
theorem ftold_fun (W : List AVal → Prop) (R : List AVal → List UInt8) (v : VaD) (k : Out → Ans) : iFun Tryd.prog ((layTo W R).hd Tryd.prog) (layTo W R).fhs 0 53 [.agg (encVa v)] [] k = (
  bif v.kind == 0 then k (Out.ret (AVal.str []) [])
  else
  bif
  tst
  (W
  (cellsA
  (AVal.agg
  [AVal.int IntKind.i64 v.kind, AVal.int IntKind.i64 v.int, AVal.str v.text, AVal.list v.lf v.ln v.lr,
  AVal.list v.kf v.keys.length fun (i : Nat) => [AVal.str (v.keys.getD i [])]])) ∧
  SubL
  [AVal.agg
  [AVal.int IntKind.i64 v.kind, AVal.int IntKind.i64 v.int, AVal.str v.text, AVal.list v.lf v.ln v.lr,
  AVal.list v.kf v.keys.length fun (i : Nat) => [AVal.str (v.keys.getD i [])]]]
  [AVal.agg
  (cellsA
  (AVal.agg
  [AVal.int IntKind.i64 v.kind, AVal.int IntKind.i64 v.int, AVal.str v.text,
  AVal.list v.lf v.ln v.lr,
  AVal.list v.kf v.keys.length fun (i : Nat) => [AVal.str (v.keys.getD i [])]]))] ∧
  ([] : Heap) = []) then
  k
  (Out.ret
  (AVal.str
  (R
  (cellsA
  (AVal.agg
  [AVal.int IntKind.i64 v.kind, AVal.int IntKind.i64 v.int, AVal.str v.text, AVal.list v.lf v.ln v.lr,
  AVal.list v.kf v.keys.length fun (i : Nat) => [AVal.str (v.keys.getD i [])]]))))
  [])
  else none) := by kernel_rfl
abbrev SS := List UInt8 → List UInt8
def layPl1 (E S N P J C : SS) : Lay := (((((Lay.nil.addF 50 (fSE E)).addF 98 (fSS S 26843545)).addF 99 (fSS N 26843545)).addF 100 (fSS P 26843545)).addF 101 (fSS J 26843545)).addF 102 (fSS C 26843545)
theorem fplain_fun (E S N P J C : SS) (e : Int) (s : List UInt8) (k : Out → Ans) : iFun Tryd.prog ((layPl1 E S N P J C).hd Tryd.prog) (layPl1 E S N P J C).fhs 0 52 [.int .i64 e, .str s] [] k = (
 let c0 : Bool := e == 1;
 let c1 : Bool := decide (s.length ≤ 26843545);
 let c2 : Bool := e == 2;
  bif c0 then
  bif c0 then bif okE s then k (Out.ret (AVal.str (E s)) []) else none
  else
  bif e == 4 then bif c1 then bif okE (S s) then k (Out.ret (AVal.str (E (S s))) []) else none else none
  else
  bif e == 5 then bif c1 then bif okE (N s) then k (Out.ret (AVal.str (E (N s))) []) else none else none
  else
  bif e == 6 then bif c1 then bif okE (P s) then k (Out.ret (AVal.str (E (P s))) []) else none else none
  else
  bif e == 8 then bif c1 then k (Out.ret (AVal.str (J s)) []) else none
  else
  bif e == 10 then bif c1 then bif okE (J s) then k (Out.ret (AVal.str (E (J s))) []) else none else none
  else
  bif e == 11 then bif c1 then k (Out.ret (AVal.str (C s)) []) else none
  else
  bif e == 12 then bif c1 then bif okE (C s) then k (Out.ret (AVal.str (E (C s))) []) else none else none
  else k (Out.ret (AVal.str []) [])
  else
  bif c2 then
  bif c2 then bif okE s then k (Out.ret (AVal.str (E s)) []) else none
  else
  bif e == 4 then bif c1 then bif okE (S s) then k (Out.ret (AVal.str (E (S s))) []) else none else none
  else
  bif e == 5 then bif c1 then bif okE (N s) then k (Out.ret (AVal.str (E (N s))) []) else none else none
  else
  bif e == 6 then bif c1 then bif okE (P s) then k (Out.ret (AVal.str (E (P s))) []) else none else none
  else
  bif e == 8 then bif c1 then k (Out.ret (AVal.str (J s)) []) else none
  else
  bif e == 10 then bif c1 then bif okE (J s) then k (Out.ret (AVal.str (E (J s))) []) else none else none
  else
  bif e == 11 then bif c1 then k (Out.ret (AVal.str (C s)) []) else none
  else
  bif e == 12 then
  bif c1 then bif okE (C s) then k (Out.ret (AVal.str (E (C s))) []) else none else none
  else k (Out.ret (AVal.str []) [])
  else
  bif e == 3 then bif okE s then k (Out.ret (AVal.str (E s)) []) else none
  else
  bif e == 4 then bif c1 then bif okE (S s) then k (Out.ret (AVal.str (E (S s))) []) else none else none
  else
  bif e == 5 then bif c1 then bif okE (N s) then k (Out.ret (AVal.str (E (N s))) []) else none else none
  else
  bif e == 6 then bif c1 then bif okE (P s) then k (Out.ret (AVal.str (E (P s))) []) else none else none
  else
  bif e == 8 then bif c1 then k (Out.ret (AVal.str (J s)) []) else none
  else
  bif e == 10 then bif c1 then bif okE (J s) then k (Out.ret (AVal.str (E (J s))) []) else none else none
  else
  bif e == 11 then bif c1 then k (Out.ret (AVal.str (C s)) []) else none
  else
  bif e == 12 then
  bif c1 then bif okE (C s) then k (Out.ret (AVal.str (E (C s))) []) else none else none
  else k (Out.ret (AVal.str []) [])) := by kernel_rfl
noncomputable def layCk (W : List AVal → Prop) (N : NsT) : Lay := Lay.nil.addF 94 (nsTold W N)
theorem vchk_fun (W : List AVal → Prop) (N : NsT) (v : VaD) (k : Out → Ans) : iFun Tryd.prog ((layCk W N).hd Tryd.prog) (layCk W N).fhs 0 49 [.agg (encVa v)] [] k = (
  bif
  tst
  ((W
  (cellsA
  (AVal.agg
  [AVal.int IntKind.i64 v.kind, AVal.int IntKind.i64 v.int, AVal.str v.text, AVal.list v.lf v.ln v.lr,
  AVal.list v.kf v.keys.length fun (i : Nat) => [AVal.str (v.keys.getD i [])]])) ∧
  (0 : Int) ≤ 16 ∧ (16 : Int) ≤ 16) ∧
  SubL
  [AVal.agg
  [AVal.int IntKind.i64 v.kind, AVal.int IntKind.i64 v.int, AVal.str v.text, AVal.list v.lf v.ln v.lr,
  AVal.list v.kf v.keys.length fun (i : Nat) => [AVal.str (v.keys.getD i [])]],
  AVal.int IntKind.i64 16]
  [AVal.agg
  (cellsA
  (AVal.agg
  [AVal.int IntKind.i64 v.kind, AVal.int IntKind.i64 v.int, AVal.str v.text, AVal.list v.lf v.ln v.lr,
  AVal.list v.kf v.keys.length fun (i : Nat) => [AVal.str (v.keys.getD i [])]])),
  AVal.int IntKind.i64 16] ∧
  ([] : Heap) = []) then
  k
  (Out.ret
  (AVal.int IntKind.i64
  (N
  (cellsA
  (AVal.agg
  [AVal.int IntKind.i64 v.kind, AVal.int IntKind.i64 v.int, AVal.str v.text, AVal.list v.lf v.ln v.lr,
  AVal.list v.kf v.keys.length fun (i : Nat) => [AVal.str (v.keys.getD i [])]]))
  16))
  [])
  else none) := by kernel_rfl
/- Apply -/
noncomputable def ckTold (W : List AVal → Prop) (N : List AVal → Int) : FSp := vrTold W (fun x k => k (.ret (.int .i64 (N x)) []))
noncomputable def saTold (B : Int → Int → Bool) : FSp := mkFS [.i .i64, .i .i64] (fun xs => true) (fun xs k => k (.ret (.bool (B (aI xs 0) (aI xs 1))) []))
noncomputable def pnTold (Q : Int → SS) : FSp := mkFS [.i .i64, .s] (fun xs => decide (1 ≤ aI xs 0 ∧ aI xs 0 ≤ 12 ∧ (aS xs 1).length ≤ 4194304)) (fun xs k => k (.ret (.str (Q (aI xs 0) (aS xs 1))) []))
noncomputable def layAp (W1 W2 : List AVal → Prop) (N : List AVal → Int) (B : Int → Int → Bool) (E : SS) (L T : List AVal → List UInt8) (Q : Int → SS) : Lay :=
  (((((Lay.nil.addF 49 (ckTold W1 N)).addF 48 (saTold B)).addF 50 (fSE E)).addF 51 (ltTold W1 L)).addF 53 (pvTold W2 T)).addF 52 (pnTold Q)
theorem fapply_fun (W1 W2 : List AVal → Prop) (N : List AVal → Int) (B : Int → Int → Bool) (E : SS) (L T : List AVal → List UInt8) (Q : Int → SS) (e : Int) (v : VaD) (k : Out → Ans) : iFun Tryd.prog ((layAp W1 W2 N B E L T Q).hd Tryd.prog) (layAp W1 W2 N B E L T Q).fhs 0 20 [.int .i64 e, .agg (encVa v)] [] k = (
 let c0 : Bool :=
  tst
  (W1
  (cellsA
  (AVal.agg
  [AVal.int IntKind.i64 v.kind, AVal.int IntKind.i64 v.int, AVal.str v.text, AVal.list v.lf v.ln v.lr,
  AVal.list v.kf v.keys.length fun (i : Nat) => [AVal.str (v.keys.getD i [])]])) ∧
  SubL
  [AVal.agg
  [AVal.int IntKind.i64 v.kind, AVal.int IntKind.i64 v.int, AVal.str v.text, AVal.list v.lf v.ln v.lr,
  AVal.list v.kf v.keys.length fun (i : Nat) => [AVal.str (v.keys.getD i [])]]]
  [AVal.agg
  (cellsA
  (AVal.agg
  [AVal.int IntKind.i64 v.kind, AVal.int IntKind.i64 v.int, AVal.str v.text, AVal.list v.lf v.ln v.lr,
  AVal.list v.kf v.keys.length fun (i : Nat) => [AVal.str (v.keys.getD i [])]]))] ∧
  ([] : Heap) = []);
 let n1 : Int :=
  N
  (cellsA
  (AVal.agg
  [AVal.int IntKind.i64 v.kind, AVal.int IntKind.i64 v.int, AVal.str v.text, AVal.list v.lf v.ln v.lr,
  AVal.list v.kf v.keys.length fun (i : Nat) => [AVal.str (v.keys.getD i [])]]));
 let c2 : Bool := e == 7;
 let l3 : List UInt8 :=
  L
  (cellsA
  (AVal.agg
  [AVal.int IntKind.i64 v.kind, AVal.int IntKind.i64 v.int, AVal.str v.text, AVal.list v.lf v.ln v.lr,
  AVal.list v.kf v.keys.length fun (i : Nat) => [AVal.str (v.keys.getD i [])]]));
 let c4 : Bool := decide (1 + l3.length ≤ 4611686018427387904);
 let c5 : Bool := decide ((32 :: l3).length + 1 ≤ 4611686018427387904);
 let l6 : List UInt8 := 32 :: (l3 ++ [32]);
 let l7 : List UInt8 :=
  T
  (cellsA
  (AVal.agg
  [AVal.int IntKind.i64 v.kind, AVal.int IntKind.i64 v.int, AVal.str v.text, AVal.list v.lf v.ln v.lr,
  AVal.list v.kf v.keys.length fun (i : Nat) => [AVal.str (v.keys.getD i [])]]));
  bif bif decide (e < 1) then true else decide (e > 12) then
  k (Out.ret (AVal.tuple [AVal.str [], AVal.int IntKind.i64 4]) [])
  else
  bif c0 then
  bif n1 != 0 then k (Out.ret (AVal.tuple [AVal.str [], AVal.int IntKind.i64 n1]) [])
  else
  bif bif B e v.kind then bif bif e == 1 then true else c2 then true else e == 11 else false then
  k (Out.ret (AVal.tuple [AVal.str v.text, AVal.int IntKind.i64 0]) [])
  else
  bif B e v.kind then
  bif okE v.text then k (Out.ret (AVal.tuple [AVal.str (E v.text), AVal.int IntKind.i64 0]) []) else none
  else
  bif c2 then
  bif c0 then
  bif c4 then bif c5 then k (Out.ret (AVal.tuple [AVal.str l6, AVal.int IntKind.i64 0]) []) else none
  else none
  else none
  else
  bif e == 9 then
  bif c0 then
  bif c4 then
  bif c5 then
  bif okE l6 then k (Out.ret (AVal.tuple [AVal.str (E l6), AVal.int IntKind.i64 0]) []) else none
  else none
  else none
  else none
  else
  bif
  tst
  (W2
  (cellsA
  (AVal.agg
  [AVal.int IntKind.i64 v.kind, AVal.int IntKind.i64 v.int, AVal.str v.text,
  AVal.list v.lf v.ln v.lr,
  AVal.list v.kf v.keys.length fun (i : Nat) => [AVal.str (v.keys.getD i [])]])) ∧
  SubL
  [AVal.agg
  [AVal.int IntKind.i64 v.kind, AVal.int IntKind.i64 v.int, AVal.str v.text,
  AVal.list v.lf v.ln v.lr,
  AVal.list v.kf v.keys.length fun (i : Nat) => [AVal.str (v.keys.getD i [])]]]
  [AVal.agg
  (cellsA
  (AVal.agg
  [AVal.int IntKind.i64 v.kind, AVal.int IntKind.i64 v.int, AVal.str v.text,
  AVal.list v.lf v.ln v.lr,
  AVal.list v.kf v.keys.length fun (i : Nat) => [AVal.str (v.keys.getD i [])]]))] ∧
  ([] : Heap) = []) then
  bif decide (1 ≤ e ∧ e ≤ 12 ∧ l7.length ≤ 4194304) then
  k (Out.ret (AVal.tuple [AVal.str (Q e l7), AVal.int IntKind.i64 0]) [])
  else none
  else none
  else none) := by kernel_rfl
end Go.Mu
set_option linter.unusedVariables false
set_option linter.unusedSimpArgs false
set_option maxRecDepth 100000
namespace Go.Mu
open Go Go.Proofs
/- octets that stand for themselves -/
def ascB (c : UInt8) : Bool := decide (1 ≤ c.toNat) && decide (c.toNat < 128) && c != 60
abbrev ascL (t : List UInt8) : Prop := ∀ c ∈ t, ascB c = true
theorem ascL_app {a b : List UInt8} (ha : ascL a) (hb : ascL b) : ascL (a ++ b) := fun c hc => by
  rcases List.mem_append.1 hc with h | h
  · exact ha c h
  · exact hb c h
theorem ascL_flat {α : Type} {f : α → List UInt8} {l : List α} (h : ∀ a ∈ l, ascL (f a)) : ascL (l.flatMap f) := fun c hc => by
  obtain ⟨a, ha, hc⟩ := List.mem_flatMap.1 hc
  exact h a ha c hc
theorem ascL_of {t : List UInt8} (h : t.all ascB = true) : ascL t := fun c hc => List.all_eq_true.1 h c hc
theorem rp_asc {t : List UInt8} (h : ascL t) : rpP t = t := by
  rw [← repB_rp]
  unfold repB
  refine repF_ascii t t.length (Nat.le_refl _) (fun c hc => ?_)
  have := h c hc
  unfold ascB at this
  simp only [Bool.and_eq_true, decide_eq_true_eq] at this
  exact this.1
theorem hxC_asc (n d : Int) : ascB (hxC (hxN n d)) = true := by
  have h1 := hxN_lt n d
  have h0 : 0 ≤ hxN n d := by
    unfold hxN
    have e : ∀ x : Int, IntKind.u64.wrap x = x % 18446744073709551616 := fun x => by simp [IntKind.wrap, IntKind.signed, IntKind.bits]
    rw [e]
    omega
  obtain ⟨m, hm⟩ : ∃ m : Fin 16, hxN n d = ((m.val : Nat) : Int) := ⟨⟨(hxN n d).toNat, by omega⟩, by simp; omega⟩
  rw [hm]
  revert m
  have key : ∀ m : Fin 16, ascB (hxC ((m.val : Nat) : Int)) = true := by decide +kernel
  exact fun m _ => key m
theorem hexX_asc (n size : Int) : ascL (hexX n size) := by
  unfold hexX
  cases size == 2
  · refine ascL_of ?_
    simp [hxC_asc]
  · refine ascL_of ?_
    simp [hxC_asc]
theorem pln_oct : ∀ m : Fin 128, 0 < m.val → plnM ((m.val : Nat) : Int) = true → ascB (UInt8.ofNat (IntKind.u8.wrap ((m.val : Nat) : Int)).toNat) = true := by decide +kernel
theorem qB_asc {c : Int} (h : 0 < c) : ascL (qB c).flatten := by
  unfold qB
  have u : ascL [92, 117] := ascL_of (by decide)
  cases hp : plnM c with
  | true =>
    have hlt : c < 128 := by
      unfold plnM at hp
      by_cases h2 : c < 128
      · exact h2
      · rw [dF h2] at hp; cases hp
    obtain ⟨m, hm⟩ : ∃ m : Fin 128, c = ((m.val : Nat) : Int) := ⟨⟨c.toNat, by omega⟩, by simp; omega⟩
    subst hm
    have := pln_oct m (by omega) hp
    simp only [cond_true, List.flatten_cons, List.flatten_nil, List.append_nil]
    exact ascL_of (by simpa using this)
  | false =>
    simp only [cond_false]
    cases decide (c > 65535)
    · simp only [cond_false, List.flatten_cons, List.flatten_nil, List.append_nil]
      exact ascL_app u (hexX_asc _ _)
    · simp only [cond_true, List.flatten_cons, List.flatten_nil, List.append_nil]
      exact ascL_app u (ascL_app (hexX_asc _ _) (ascL_app u (hexX_asc _ _)))
theorem qT_asc (s : List UInt8) : ascL (qT (chP s)) := ascL_flat (fun c hc => qB_asc (chP_ok s c hc).1)
theorem jsE_asc (s : List UInt8) : ascL (jsE s) := qT_asc s
theorem unr_oct : ∀ c : UInt8, unrI ((c.toNat : Nat) : Int) = true → ascB c = true := oct256 (p := fun c => unrI ((c.toNat : Nat) : Int) = true → ascB c = true) (by decide +kernel)
theorem res_oct : ∀ c : UInt8, ibM [33, 35, 36, 38, 42, 43, 44, 47, 58, 59, 61, 63, 64, 91, 93] ((c.toNat : Nat) : Int) ≥ 0 → ascB c = true := oct256 (p := fun c => ibM [33, 35, 36, 38, 42, 43, 44, 47, 58, 59, 61, 63, 64, 91, 93] ((c.toNat : Nat) : Int) ≥ 0 → ascB c = true) (by decide +kernel)
theorem wrT_asc {M : List UInt8 → Int → Bool} (hM : ∀ s (i : Nat), M s i = true → ascB (s.getD i 0) = true) (s : List UInt8) : ascL (wrT M s) := ascL_flat (fun i _ => by
  unfold wrG
  cases h : M s i with
  | true =>
    simp only [cond_true, List.flatten_cons, List.flatten_nil, List.append_nil]
    exact ascL_of (by simpa using hM s i h)
  | false =>
    simp only [cond_false, List.flatten_cons, List.flatten_nil, List.append_nil]
    exact ascL_app (ascL_of (by decide)) (hexX_asc _ _))
theorem pencP_asc (s : List UInt8) : ascL (pencP s) := wrT_asc (fun s i h => unr_oct _ h) _
theorem normP_asc (s : List UInt8) : ascL (normP s) := wrT_asc (fun s i h => by
  unfold mayNM at h
  simp only [Int.toNat_natCast] at h
  cases hu : unrI ((s.getD i 0).toNat : Int) with
  | true => exact unr_oct _ hu
  | false =>
    rw [hu] at h
    simp only [cond_false] at h
    cases hr : decide (ibM [33, 35, 36, 38, 42, 43, 44, 47, 58, 59, 61, 63, 64, 91, 93] ((s.getD i 0).toNat : Int) ≥ 0) with
    | true => exact res_oct _ (of_decide_eq_true hr)
    | false =>
      rw [hr] at h
      simp only [cond_false, Bool.cond_self] at h
      cases hq : (((s.getD i 0).toNat : Int) != 37) with
      | true => rw [hq] at h; cases h
      | false =>
        have h37 : ((s.getD i 0).toNat : Int) = 37 := by simpa using hq
        have : (s.getD i 0).toNat = 37 := by omega
        unfold ascB
        rw [this]
        have h60 : s.getD i 0 ≠ 60 := fun e => by rw [e] at this; cases this
        simp [bne_iff_ne, h60]
        exact (by simpa using h60)) _
/- Escape, of any text that is short enough when repaired -/
theorem escP_ok2 (s : List UInt8) (hs : s.length ≤ 17592186044416) (hr2 : (rpP s).length ≤ 107374182) : CallOK Tryd.prog 50 [.str s] [] (.ret (.str (escP s)) []) := by
  have hr := repB_rp s
  have c1 := Bld.adds_can ((repB s).map escC) (Bld.new_can 0 2)
  have t1 : (escE Bld.new (repB s)).t = escP s := by
    unfold escE
    rw [Bld.adds_t, map_flatten, hr]; rfl
  have hl2 : (escP s).length ≤ 5 * (rpP s).length := flat_len escC 5 escC_len (rpP s)
  have key := fun k => (esc_fun repB escE s k (repB s) (byt_decL false (repB s)).symm _ rfl _ rfl (escE Bld.new (repB s)).t rfl).trans
    ((congrArg (fun c => cond c _ none) (dT hs)).trans ((cond_true _ _).trans
    ((congrArg (fun c => cond c _ none) (tst_true ⟨⟨Bld.new_can 0 2, rfl, rfl, by rw [hr]; omega⟩, .refl _, by trivial⟩)).trans ((cond_true _ _).trans
    ((congrArg (fun c => cond c _ none) (tst_true ⟨⟨c1, by rw [t1]; omega⟩, .refl _, by trivial⟩)).trans (cond_true _ _))))))
  rw [← t1]
  exact layEs_ok.callF rfl key
theorem fSE_ok : ∀ xs H k out, fSE escP xs H k = some out → ∃ o, CallOK Tryd.prog 50 xs H o ∧ k o = some out := mkFS_ok fun ys xs e h => by
  obtain ⟨s, rfl⟩ : ∃ s, xs = [.str s] := ⟨_, e⟩
  obtain ⟨h1, h2⟩ : s.length ≤ 17592186044416 ∧ (rpP s).length ≤ 107374182 := of_decide_eq_true h
  exact ⟨_, fun k => rfl, escP_ok2 s h1 h2⟩
theorem fSS_ok {P : Program} {R : List UInt8 → List UInt8} {n : Nat} {f : FuncId} (h : ∀ s, s.length ≤ n → CallOK P f [.str s] [] (.ret (.str (R s)) [])) : ∀ xs H k out, fSS R n xs H k = some out → ∃ o, CallOK P f xs H o ∧ k o = some out := mkFS_ok fun ys xs e h' => by
  obtain ⟨s, rfl⟩ : ∃ s, xs = [.str s] := ⟨_, e⟩
  exact ⟨_, fun k => rfl, h s (of_decide_eq_true h')⟩
def schFP (s : List UInt8) : List UInt8 := bif (bif (schemeM s).snd then !bif bif (schemeM s).fst == [104, 116, 116, 112] then true else (schemeM s).fst == [104, 116, 116, 112, 115] then true else (schemeM s).fst == [109, 97, 105, 108, 116, 111] else false) then [35, 90, 103, 111, 116, 109, 112, 108, 90] else normP s
theorem laySf_ok : (laySf normP).OK Tryd.prog := (Lay.nil_ok.addF schTold_ok).addF (fSS_ok normP_ok)
theorem schFP_ok (s : List UInt8) (h : s.length ≤ 26843545) : CallOK Tryd.prog 98 [.str s] [] (.ret (.str (schFP s)) []) := laySf_ok.callF (G := []) rfl (fun k => (schF_fun normP s k).trans (by
  rw [dT (show s.length ≤ 1099511627776 by omega), dT h, cond_true, cond_true]
  unfold schFP
  cases (bif (schemeM s).snd then !bif bif (schemeM s).fst == [104, 116, 116, 112] then true else (schemeM s).fst == [104, 116, 116, 112, 115] then true else (schemeM s).fst == [109, 97, 105, 108, 116, 111] else false) <;> rfl))
theorem schFP_asc (s : List UInt8) : ascL (schFP s) := by
  unfold schFP
  cases (bif (schemeM s).snd then !bif bif (schemeM s).fst == [104, 116, 116, 112] then true else (schemeM s).fst == [104, 116, 116, 112, 115] then true else (schemeM s).fst == [109, 97, 105, 108, 116, 111] else false)
  · exact normP_asc s
  · show ascL [35, 90, 103, 111, 116, 109, 112, 108, 90]
    exact ascL_of (by decide)
theorem schFP_len (s : List UInt8) : (schFP s).length ≤ 12 * s.length + 9 := by
  unfold schFP
  have := normP_len s
  cases (bif (schemeM s).snd then !bif bif (schemeM s).fst == [104, 116, 116, 112] then true else (schemeM s).fst == [104, 116, 116, 112, 115] then true else (schemeM s).fst == [109, 97, 105, 108, 116, 111] else false)
  · simp only [cond_false]; omega
  · simp
theorem okE_asc {s : List UInt8} (h : ascL s) (hl : s.length ≤ 107374182) : okE s = true := by
  unfold okE
  rw [rp_asc h]
  exact dT ⟨by omega, hl⟩
theorem okE_len {s : List UInt8} (hl : s.length ≤ 26843545) : okE s = true := by
  unfold okE
  have := rpP_len s
  exact dT ⟨by omega, by omega⟩
/- Plain -/
def plP (e : Int) (s : List UInt8) : List UInt8 := if e = 1 ∨ e = 2 ∨ e = 3 then escP s else if e = 4 then escP (schFP s) else if e = 5 then escP (normP s) else if e = 6 then escP (pencP s) else if e = 8 then jsE s else if e = 10 then escP (jsE s) else if e = 11 then cssF s else if e = 12 then escP (cssF s) else []
theorem cssF_len (s : List UInt8) : (cssF s).length ≤ s.length + 8 := by
  unfold cssF
  cases plainM s
  · simp
  · simp
theorem layPl1_ok : (layPl1 escP schFP normP pencP jsE cssF).OK Tryd.prog :=
  (((((Lay.nil_ok.addF fSE_ok).addF (fSS_ok schFP_ok)).addF (fSS_ok normP_ok)).addF (fSS_ok pencP_ok)).addF (fSS_ok jsE_ok)).addF (fSS_ok (fun s h => cssF_ok s (by omega)))
theorem fplain_ok (e : Int) (s : List UInt8) (h1 : 1 ≤ e) (h12 : e ≤ 12) (hs : s.length ≤ 4194304) : CallOK Tryd.prog 52 [.int .i64 e, .str s] [] (.ret (.str (plP e s)) []) := by
  have l1 := schFP_len s
  have l2 := normP_len s
  have l3 := pencP_len s
  have l4 : (jsE s).length ≤ 12 * s.length := by
    have := qT_len (chP s)
    have := chP_len s
    unfold jsE; omega
  have l5 := cssF_len s
  have o0 : okE s = true := okE_len (by omega)
  have o1 : okE (schFP s) = true := okE_asc (schFP_asc s) (by omega)
  have o2 : okE (normP s) = true := okE_asc (normP_asc s) (by omega)
  have o3 : okE (pencP s) = true := okE_asc (pencP_asc s) (by omega)
  have o4 : okE (jsE s) = true := okE_asc (jsE_asc s) (by omega)
  have o5 : okE (cssF s) = true := okE_len (by omega)
  have hs2 : decide (s.length ≤ 26843545) = true := dT (by omega)
  refine layPl1_ok.callF (G := []) rfl (fun k => (fplain_fun escP schFP normP pencP jsE cssF e s k).trans ?_)
  simp only [o0, o1, o2, o3, o4, o5, hs2, cond_true]
  obtain ⟨m, rfl⟩ : ∃ m : Nat, e = m := ⟨e.toNat, by omega⟩
  have hm : m < 13 := by omega
  match m, hm with
  | 0, _ => omega
  | 1, _ => rfl
  | 2, _ => rfl
  | 3, _ => rfl
  | 4, _ => rfl
  | 5, _ => rfl
  | 6, _ => rfl
  | 7, _ => rfl
  | 8, _ => rfl
  | 9, _ => rfl
  | 10, _ => rfl
  | 11, _ => rfl
  | 12, _ => rfl
theorem pnTold_ok : ∀ xs H k out, pnTold plP xs H k = some out → ∃ o, CallOK Tryd.prog 52 xs H o ∧ k o = some out := mkFS_ok fun ys xs e h => by
  obtain ⟨n, s, rfl⟩ : ∃ n s, xs = [.int .i64 n, .str s] := ⟨_, _, e⟩
  have h2 : 1 ≤ n ∧ n ≤ 12 ∧ s.length ≤ 4194304 := of_decide_eq_true h
  exact ⟨_, fun k => rfl, fplain_ok n s h2.1 h2.2.1 h2.2.2⟩
theorem saTold_ok : ∀ xs H k out, saTold safeB xs H k = some out → ∃ o, CallOK Tryd.prog 48 xs H o ∧ k o = some out := mkFS_ok fun ys xs e h => by
  obtain ⟨n, m, rfl⟩ : ∃ n m, xs = [.int .i64 n, .int .i64 m] := ⟨_, _, e⟩
  exact ⟨_, fun k => rfl, fsafe_ok n m⟩
/- told -/
def toV (d : Nat) (v : VaD) : List UInt8 := if v.kind = 0 then [] else prV d v
def toR (d : Nat) (x : List AVal) : List UInt8 := toV d (decVa x)
theorem toR_enc (d : Nat) (v : VaD) : toR d (encVa v) = toV d v := by unfold toR; rw [decVa_enc]
theorem toTold_ok (d : Nat) : ∀ xs H k out, pvTold (PvD d) (toR d) xs H k = some out → ∃ o, CallOK Tryd.prog 53 xs H o ∧ k o = some out := vrTold_ok (ok := PvD d) (post := fun x k => k (.ret (.str (toR d x)) [])) fun x h => ⟨_, fun k => rfl, by
  have h1 : x = encVa (decVa x) := h.1.1
  generalize hv : decVa x = v at h1
  subst h1
  rw [toR_enc]
  refine Lay.OK.callF (L := layTo (PvD d) (prR d)) (Lay.nil_ok.addF (pvTold_ok d)) (G := []) rfl (fun k => (ftold_fun (PvD d) (prR d) v k).trans ?_)
  unfold toV
  by_cases h0 : v.kind = 0
  · rw [if_pos h0, h0]; rfl
  · rw [if_neg h0, beq_false_of_ne h0, cond_false]
    refine (congrArg (fun c => cond c _ none) (tst_true ⟨h, .refl _, rfl⟩)).trans ((cond_true _ _).trans ?_)
    show k (.ret (.str (prR d (encVa v))) []) = _
    rw [prR_enc]⟩
/- Check -/
def chkR (d : Nat) (x : List AVal) : Int := nestV d (decVa x) 16
theorem chkR_enc (d : Nat) (v : VaD) : chkR d (encVa v) = nestV d v 16 := by unfold chkR; rw [decVa_enc]
theorem ckTold_ok (d : Nat) : ∀ xs H k out, ckTold (WvD d) (chkR d) xs H k = some out → ∃ o, CallOK Tryd.prog 49 xs H o ∧ k o = some out := vrTold_ok (ok := WvD d) (post := fun x k => k (.ret (.int .i64 (chkR d x)) [])) fun x h => ⟨_, fun k => rfl, by
  have h1 : x = encVa (decVa x) := h.1
  generalize hv : decVa x = v at h1
  subst h1
  refine Lay.OK.callF (L := layCk (WvD d) (nestR d)) (Lay.nil_ok.addF (nsTold_ok d)) (G := []) rfl (fun k => (vchk_fun (WvD d) (nestR d) v k).trans ?_)
  exact (congrArg (fun c => cond c _ none) (tst_true ⟨⟨h, by decide, by decide⟩, .refl _, rfl⟩)).trans (cond_true _ _)⟩
theorem kd_of_nest : ∀ (d : Nat) (v : VaD) (c : Int), wfVal d v → nestV d v c = 0 → kdV d v
  | 0, v, c, hw, _ => absurd hw (by unfold wfVal; exact id)
  | d + 1, v, c, hw, h => by
    have body : ∀ c, nestB (nestV d) v c = 0 → kdV (d + 1) v := fun c hb => by
      unfold nestB at hb
      cases h1 : decide ((v.text.length : Int) > 4096) with
      | true => rw [h1] at hb; cases hb
      | false =>
      cases h2 : (bif decide ((v.ln : Int) > 1024) then true else decide ((v.keys.length : Int) > 1024)) with
      | true => rw [h1, h2] at hb; cases hb
      | false =>
      cases h3 : (bif !usedB v then true else !keysB v) with
      | true => rw [h1, h2, h3] at hb; cases hb
      | false =>
      rw [h1, h2, h3] at hb
      simp only [cond_false] at hb
      have hu : usedB v = true := by
        cases hu : usedB v with
        | true => rfl
        | false => rw [hu] at h3; cases h3
      refine ⟨?_, fun x hx => ?_⟩
      · unfold usedB at hu
        cases h4 : (bif decide (v.kind ≥ 0) then decide (v.kind ≤ 11) else false) with
        | false => rw [h4] at hu; simp at hu
        | true =>
          by_cases h5 : v.kind ≥ 0
          · rw [dT h5, cond_true] at h4
            exact ⟨h5, of_decide_eq_true h4⟩
          · rw [dF h5] at h4; cases h4
      · have hw2 := hw.2.2.2 x hx
        refine kd_of_nest d x c hw2 ?_
        cases h6 : (vals v.list).any (fun x => nestV d x c != 0) with
        | false =>
          have := List.any_eq_false.1 h6 x hx
          simpa using this
        | true =>
          rw [h6, cond_true] at hb
          obtain ⟨y, hy, hy2⟩ := List.any_eq_true.1 h6
          have hlt := List.findIdx_lt_length_of_exists (p := fun x => nestV d x c != 0) ⟨y, hy, hy2⟩
          have := List.findIdx_getElem (w := hlt)
          rw [List.getD_eq_getElem?_getD, List.getElem?_eq_getElem hlt, Option.getD_some] at hb
          rw [hb] at this
          simp at this
    unfold nestV at h
    cases hb : (bif v.kind == 5 then true else v.kind == 6) with
    | true =>
      rw [hb, cond_true] at h
      cases hc : decide (c - 1 < 0) with
      | true => rw [hc] at h; cases h
      | false => rw [hc] at h; exact body _ h
    | false => rw [hb, cond_false] at h; exact body _ h
end Go.Mu
set_option linter.unusedVariables false
set_option linter.unusedSimpArgs false
set_option maxRecDepth 100000
namespace Go.Mu
open Go Go.Proofs
def blnk (s : List UInt8) : List UInt8 := 32 :: (s ++ [32])
def apT (d : Nat) (e : Int) (v : VaD) : List UInt8 :=
  if safeB e v.kind = true then (if e = 1 ∨ e = 7 ∨ e = 11 then v.text else escP v.text) else if e = 7 then blnk (litV d v) else if e = 9 then escP (blnk (litV d v)) else plP e (toV d v)
def apE (d : Nat) (e : Int) (v : VaD) : Int := if e < 1 ∨ e > 12 then 4 else nestV d v 16
def apV (d : Nat) (e : Int) (v : VaD) : List UInt8 := if apE d e v = 0 then apT d e v else []
theorem layAp_ok (d : Nat) : (layAp (WvD d) (PvD d) (chkR d) safeB escP (ltR d) (toR d) plP).OK Tryd.prog :=
  (((((Lay.nil_ok.addF (ckTold_ok d)).addF saTold_ok).addF fSE_ok).addF (ltTold_ok d)).addF (toTold_ok d)).addF pnTold_ok
theorem toV_len (d : Nat) (v : VaD) (hs : szV d v ≤ 16777216) : (toV d v).length ≤ 4194304 := by
  unfold toV
  have := prV_len d v
  split
  · simp
  · omega
theorem sz_text {d : Nat} {v : VaD} (hw : wfVal d v) (hs : szV d v ≤ 16777216) : v.text.length ≤ 1048576 := by
  cases d with
  | zero => exact absurd hw (by unfold wfVal; exact id)
  | succ d => unfold szV at hs; omega
theorem apply_ok (d : Nat) (e : Int) (v : VaD) (hw : wfVal d v) (hs : szV d v ≤ 16777216) : CallOK Tryd.prog 20 [.int .i64 e, .agg (encVa v)] [] (.ret (.tuple [.str (apV d e v), .int .i64 (apE d e v)]) []) := by
  have hW := WvD_enc hw hs
  have en := chkR_enc d v
  have el := ltR_enc d v
  have et := toR_enc d v
  have hl := litV_len d v
  have ht := toV_len d v hs
  have hx := sz_text hw hs
  have key := fun k => fapply_fun (WvD d) (PvD d) (chkR d) safeB escP (ltR d) (toR d) plP e v k
  unfold apV apE
  by_cases hr : e < 1 ∨ e > 12
  · have hb : (bif decide (e < 1) then true else decide (e > 12)) = true := by
      rcases hr with h | h
      · rw [dT h]; rfl
      · rw [dT h]; simp
    rw [if_pos hr, if_neg (by decide)]
    refine (layAp_ok d).callF (G := []) rfl (fun k => (key k).trans ?_)
    rw [hb]; rfl
  have hb : (bif decide (e < 1) then true else decide (e > 12)) = false := by
    rw [dF (by omega), dF (by omega)]; rfl
  rw [if_neg hr]
  refine (layAp_ok d).callF (G := []) rfl (fun k => (key k).trans ?_)
  simp only [hb, cond_false]
  refine (congrArg (fun c => cond c _ none) (tst_true ⟨hW, .refl _, by trivial⟩)).trans ((cond_true _ _).trans ?_)
  show cond (chkR d (encVa v) != 0) (k (.ret (.tuple [.str [], .int .i64 (chkR d (encVa v))]) [])) _ = _
  rw [en]
  by_cases hn : nestV d v 16 = 0
  · rw [hn, if_pos rfl]
    show cond (bif safeB e v.kind then bif bif e == 1 then true else e == 7 then true else e == 11 else false) _ _ = _
    have hP : PvD d (encVa v) := PvD_enc ⟨hw, hs, kd_of_nest d v 16 hw hn⟩
    unfold apT
    cases hsf : safeB e v.kind with
    | true =>
      rw [if_pos rfl]
      have e3 : (bif bif e == 1 then true else e == 7 then true else e == 11) = decide (e = 1 ∨ e = 7 ∨ e = 11) := by
        by_cases h1 : e = 1
        · subst h1; rfl
        by_cases h7 : e = 7
        · subst h7; rfl
        by_cases h11 : e = 11
        · subst h11; rfl
        rw [beq_false_of_ne h1, beq_false_of_ne h7, beq_false_of_ne h11, dF (by omega)]; rfl
      rw [cond_true, e3]
      by_cases h3 : e = 1 ∨ e = 7 ∨ e = 11
      · rw [dT h3, if_pos h3]; rfl
      · rw [dF h3, if_neg h3, cond_false, cond_true]
        exact (congrArg (fun c => cond c _ none) (okE_len (s := v.text) (by omega))).trans rfl
    | false =>
      rw [cond_false, cond_false, cond_false, if_neg (by simp)]
      by_cases h7 : e = 7
      · rw [if_pos h7]
        have : (e == 7) = true := by rw [h7]; rfl
        rw [this, cond_true]
        refine (congrArg (fun c => cond c _ none) (tst_true ⟨hW, .refl _, by trivial⟩)).trans ((cond_true _ _).trans ?_)
        show cond (decide (1 + (ltR d (encVa v)).length ≤ 4611686018427387904)) (cond (decide ((32 :: ltR d (encVa v)).length + 1 ≤ 4611686018427387904)) (k (.ret (.tuple [.str (32 :: (ltR d (encVa v) ++ [32])), .int .i64 0]) [])) none) none = _
        rw [el, List.length_cons, dT (by omega), dT (by omega)]
        rfl
      · rw [if_neg h7, beq_false_of_ne h7, cond_false]
        by_cases h9 : e = 9
        · rw [if_pos h9]
          have : (e == 9) = true := by rw [h9]; rfl
          rw [this, cond_true]
          refine (congrArg (fun c => cond c _ none) (tst_true ⟨hW, .refl _, by trivial⟩)).trans ((cond_true _ _).trans ?_)
          show cond (decide (1 + (ltR d (encVa v)).length ≤ 4611686018427387904)) (cond (decide ((32 :: ltR d (encVa v)).length + 1 ≤ 4611686018427387904)) (cond (okE (32 :: (ltR d (encVa v) ++ [32]))) (k (.ret (.tuple [.str (escP (32 :: (ltR d (encVa v) ++ [32]))), .int .i64 0]) [])) none) none) none = _
          rw [el, List.length_cons, dT (by omega), dT (by omega), okE_len (by simp; omega)]
          rfl
        · rw [if_neg h9, beq_false_of_ne h9, cond_false]
          refine (congrArg (fun c => cond c _ none) (tst_true ⟨hP, .refl _, by trivial⟩)).trans ((cond_true _ _).trans ?_)
          show cond (decide (1 ≤ e ∧ e ≤ 12 ∧ (toR d (encVa v)).length ≤ 4194304)) (k (.ret (.tuple [.str (plP e (toR d (encVa v))), .int .i64 0]) [])) none = _
          rw [et, dT ⟨by omega, by omega, ht⟩]
          rfl
  · rw [if_neg hn]
    have : (nestV d v 16 != 0) = true := by simpa using hn
    rw [this]
    rfl
def canC (x : List AVal) : List AVal := encVa (decVa x)
noncomputable def apTold (W : List AVal → Prop) (A : Int → List AVal → List UInt8) (X : Int → List AVal → Int) : FSp := mkF (fun xs H => (aI xs 0, cellsA (xs.getD 1 .undef))) (fun a => W (canC a.2)) (fun a => [.int .i64 a.1, .agg (canC a.2)]) (fun _ => []) (fun a k => k (.ret (.tuple [.str (A a.1 a.2), .int .i64 (X a.1 a.2)]) []))
def apRV (d : Nat) (e : Int) (x : List AVal) : List UInt8 := apV d e (decVa x)
def apRE (d : Nat) (e : Int) (x : List AVal) : Int := apE d e (decVa x)
theorem apTold_ok (d : Nat) : ∀ xs H k out, apTold (WvD d) (apRV d) (apRE d) xs H k = some out → ∃ o, CallOK Tryd.prog 20 xs H o ∧ k o = some out := by
  unfold apTold
  exact mkF_ok fun a h => ⟨_, fun k => rfl, by
    obtain ⟨e, x⟩ := a
    have h : WvD d (encVa (decVa x)) := h
    have h2 := h.2
    rw [decVa_enc] at h2
    exact apply_ok d e (decVa x) h2.1 h2.2⟩
end Go.Mu
set_option linter.unusedVariables false
set_option linter.unusedSimpArgs false
set_option maxRecDepth 100000
namespace Go.Mu
open Go Go.Proofs
abbrev ApA := Int → List AVal → List UInt8
abbrev ApX := Int → List AVal → Int
noncomputable def layL1 (W : List AVal → Prop) (A : ApA) (X : ApX) (B : Int → Int → Bool) : Lay := (Lay.nil.addF 20 (apTold W A X)).addF 48 (saTold B)
theorem alive23_fun (W : List AVal → Prop) (A : ApA) (X : ApX) (B : Int → Int → Bool) (k : Out → Ans) : iFun Tryd.prog ((layL1 W A X B).hd Tryd.prog) (layL1 W A X B).fhs 0 19 [] [] k = (
  bif
  tst
  (W
  (canC
  (cellsA
  (AVal.agg
  [AVal.int IntKind.i64 4, AVal.int IntKind.i64 0, AVal.str [60], AVal.list true 0 fun (x : Nat) => [],
  AVal.list true 0 fun (x : Nat) => []]))) ∧
  SubL
  [AVal.int IntKind.i64 1,
  AVal.agg
  [AVal.int IntKind.i64 4, AVal.int IntKind.i64 0, AVal.str [60], AVal.list true 0 fun (x : Nat) => [],
  AVal.list true 0 fun (x : Nat) => []]]
  [AVal.int IntKind.i64 1,
  AVal.agg
  (canC
  (cellsA
  (AVal.agg
  [AVal.int IntKind.i64 4, AVal.int IntKind.i64 0, AVal.str [60],
  AVal.list true 0 fun (x : Nat) => [], AVal.list true 0 fun (x : Nat) => []])))] ∧
  ([] : Heap) = []) then
  k
  (Out.ret
  (AVal.bool
  (bif
  bif
  X 1
  (cellsA
  (AVal.agg
  [AVal.int IntKind.i64 4, AVal.int IntKind.i64 0, AVal.str [60],
  AVal.list true 0 fun (x : Nat) => [], AVal.list true 0 fun (x : Nat) => []])) ==
  0 then
  A 1
  (cellsA
  (AVal.agg
  [AVal.int IntKind.i64 4, AVal.int IntKind.i64 0, AVal.str [60],
  AVal.list true 0 fun (x : Nat) => [], AVal.list true 0 fun (x : Nat) => []])) ==
  [38, 108, 116, 59]
  else false then
  B 1 7
  else false))
  [])
  else none) := by kernel_rfl
def aliveT : FSp := mkFS [] (fun _ => true) (fun _ k => k (.ret (.bool true) []))
noncomputable def layL2 (W : List AVal → Prop) (A : ApA) (X : ApX) (B : Int → Int → Bool) (E : SS) : Lay := (((Lay.nil.addF 20 (apTold W A X)).addF 23 (saTold B)).addF 24 (rescTold E)).addF 19 aliveT
theorem law23s_fun (W : List AVal → Prop) (A : ApA) (X : ApX) (B : Int → Int → Bool) (E : SS) (e kd : Int) (s : List UInt8) (k : Out → Ans) : iFun Tryd.prog ((layL2 W A X B E).hd Tryd.prog) (layL2 W A X B E).fhs 0 5 [.int .i64 e, .int .i64 kd, .str s] [] k = (
 let n0 : Int := IntKind.i64.wrap (e.tmod 12 + 12);
 let n1 : Int := IntKind.i64.wrap (kd.tmod 5 + 5);
 let n2 : Int := IntKind.i64.wrap (7 + n1.tmod 5);
 let n3 : Int := IntKind.i64.wrap (1 + n0.tmod 12);
 let l4 : List UInt8 :=
  A n3
  (cellsA
  (AVal.agg
  [AVal.int IntKind.i64 n2, AVal.int IntKind.i64 0, AVal.str s, AVal.list true 0 fun (x : Nat) => [],
  AVal.list true 0 fun (x : Nat) => []]));
  bif !(e == e && false) then
  bif !(n0 == n0 && false) then
  bif !(kd == kd && false) then
  bif !(n1 == n1 && false) then
  bif decide ((↑s.length : Int) > 4096) then k (Out.ret (AVal.bool true) [])
  else
  bif
  tst
  (W
  (canC
  (cellsA
  (AVal.agg
  [AVal.int IntKind.i64 n2, AVal.int IntKind.i64 0, AVal.str s,
  AVal.list true 0 fun (x : Nat) => [], AVal.list true 0 fun (x : Nat) => []]))) ∧
  SubL
  [AVal.int IntKind.i64 n3,
  AVal.agg
  [AVal.int IntKind.i64 n2, AVal.int IntKind.i64 0, AVal.str s,
  AVal.list true 0 fun (x : Nat) => [], AVal.list true 0 fun (x : Nat) => []]]
  [AVal.int IntKind.i64 n3,
  AVal.agg
  (canC
  (cellsA
  (AVal.agg
  [AVal.int IntKind.i64 n2, AVal.int IntKind.i64 0, AVal.str s,
  AVal.list true 0 fun (x : Nat) => [], AVal.list true 0 fun (x : Nat) => []])))] ∧
  ([] : Heap) = []) then
  bif
  tst
  (W
  (canC
  (cellsA
  (AVal.agg
  [AVal.int IntKind.i64 4, AVal.int IntKind.i64 0, AVal.str s,
  AVal.list true 0 fun (x : Nat) => [], AVal.list true 0 fun (x : Nat) => []]))) ∧
  SubL
  [AVal.int IntKind.i64 n3,
  AVal.agg
  [AVal.int IntKind.i64 4, AVal.int IntKind.i64 0, AVal.str s,
  AVal.list true 0 fun (x : Nat) => [], AVal.list true 0 fun (x : Nat) => []]]
  [AVal.int IntKind.i64 n3,
  AVal.agg
  (canC
  (cellsA
  (AVal.agg
  [AVal.int IntKind.i64 4, AVal.int IntKind.i64 0, AVal.str s,
  AVal.list true 0 fun (x : Nat) => [], AVal.list true 0 fun (x : Nat) => []])))] ∧
  ([] : Heap) = []) then
  bif
  IntKind.i64.wrap
  (X n3
  (cellsA
  (AVal.agg
  [AVal.int IntKind.i64 n2, AVal.int IntKind.i64 0, AVal.str s,
  AVal.list true 0 fun (x : Nat) => [], AVal.list true 0 fun (x : Nat) => []])) +
  X n3
  (cellsA
  (AVal.agg
  [AVal.int IntKind.i64 4, AVal.int IntKind.i64 0, AVal.str s,
  AVal.list true 0 fun (x : Nat) => [], AVal.list true 0 fun (x : Nat) => []]))) !=
  0 then
  k (Out.ret (AVal.bool false) [])
  else
  bif !B n3 n2 then
  k
  (Out.ret
  (AVal.bool
  (l4 ==
  A n3
  (cellsA
  (AVal.agg
  [AVal.int IntKind.i64 4, AVal.int IntKind.i64 0, AVal.str s,
  AVal.list true 0 fun (x : Nat) => [], AVal.list true 0 fun (x : Nat) => []]))))
  [])
  else
  bif decide (s.length ≤ 1073741824) then
  k (Out.ret (AVal.bool (bif l4 == s then true else l4 == E s)) [])
  else none
  else none
  else none
  else none
  else none
  else none
  else none) := by kernel_rfl
end Go.Mu
set_option linter.unusedVariables false
set_option linter.unusedSimpArgs false
set_option maxRecDepth 100000
namespace Go.Mu
open Go Go.Proofs
def leafV (kd : Int) (s : List UInt8) : VaD := ⟨kd, 0, s, true, 0, fun _ => [], true, []⟩
abbrev leafK (kd : Int) : Prop := kd = 4 ∨ 7 ≤ kd ∧ kd ≤ 11
theorem leaf_vals (kd : Int) (s : List UInt8) : vals (leafV kd s).list = [] := rfl
theorem leaf_wf (kd : Int) (s : List UInt8) : wfVal 1 (leafV kd s) := by
  refine ⟨by show (-9223372036854775808 : Int) ≤ 0; omega, by show (0 : Int) ≤ 9223372036854775807; omega, rfl, fun x hx => ?_⟩
  rw [leaf_vals] at hx
  cases hx
theorem leaf_sz (kd : Int) (s : List UInt8) : szV 1 (leafV kd s) = 96 + 16 * s.length := by
  unfold szV
  rw [leaf_vals]
  simp [leafV]
theorem leaf_nest {kd : Int} {s : List UInt8} (hk : leafK kd) (hs : s.length ≤ 4096) (c : Int) : nestV 1 (leafV kd s) c = 0 := by
  have hu : usedB (leafV kd s) = true := by
    unfold usedB
    obtain rfl | rfl | rfl | rfl | rfl | rfl : kd = 4 ∨ kd = 7 ∨ kd = 8 ∨ kd = 9 ∨ kd = 10 ∨ kd = 11 := by omega
    all_goals rfl
  have hy : keysB (leafV kd s) = true := by
    unfold keysB
    obtain rfl | rfl | rfl | rfl | rfl | rfl : kd = 4 ∨ kd = 7 ∨ kd = 8 ∨ kd = 9 ∨ kd = 10 ∨ kd = 11 := by omega
    all_goals rfl
  have h56 : (bif (leafV kd s).kind == 5 then true else (leafV kd s).kind == 6) = false := by
    obtain rfl | rfl | rfl | rfl | rfl | rfl : kd = 4 ∨ kd = 7 ∨ kd = 8 ∨ kd = 9 ∨ kd = 10 ∨ kd = 11 := by omega
    all_goals rfl
  have hb : decide (((leafV kd s).text.length : Int) > 4096) = false := dF (by show ¬ (s.length : Int) > 4096; omega)
  unfold nestV nestB
  rw [h56, hb, hu, hy, leaf_vals]
  rfl
theorem leaf_to {kd : Int} {s : List UInt8} (hk : leafK kd) : toV 1 (leafV kd s) = s := by
  have k : (leafV kd s).kind = kd := rfl
  unfold toV prV
  rw [if_neg (by omega), if_neg (by omega), if_neg (by omega), if_neg (by omega), if_neg (by omega), if_neg (by omega), if_neg (by omega)]
  rfl
theorem leaf_lit {kd : Int} {s : List UInt8} (hk : leafK kd) : litV 1 (leafV kd s) = quoP s := by
  have k : (leafV kd s).kind = kd := rfl
  unfold litV
  rw [if_neg (by omega), if_neg (by omega), if_neg (by omega), if_neg (by omega), if_neg (by omega)]
  rfl
theorem leaf_ap {kd e : Int} {s : List UInt8} (hk : leafK kd) (hs : s.length ≤ 4096) (h1 : 1 ≤ e) (h12 : e ≤ 12) : apE 1 e (leafV kd s) = 0 ∧ apV 1 e (leafV kd s) = (if safeB e kd = true then (if e = 1 ∨ e = 7 ∨ e = 11 then s else escP s) else if e = 7 then blnk (quoP s) else if e = 9 then escP (blnk (quoP s)) else plP e s) := by
  have hE : apE 1 e (leafV kd s) = 0 := by unfold apE; rw [if_neg (by omega), leaf_nest hk hs]
  refine ⟨hE, ?_⟩
  unfold apV apT
  rw [hE, if_pos rfl, leaf_to hk, leaf_lit hk]
  rfl
theorem safe4 (e : Int) : safeB e 4 = false := rfl
theorem layL1_ok (d : Nat) : (layL1 (WvD d) (apRV d) (apRE d) safeB).OK Tryd.prog := (Lay.nil_ok.addF (apTold_ok d)).addF saTold_ok
abbrev leafR (kd : Int) (s : List UInt8) : List AVal := [.int .i64 kd, .int .i64 0, .str s, .list true 0 (fun _ => []), .list true 0 (fun _ => [])]
theorem leaf_dec (kd : Int) (s : List UInt8) : decVa (leafR kd s) = leafV kd s := rfl
theorem leaf_sub (kd : Int) (s : List UInt8) : Sub (.agg (leafR kd s)) (.agg (canC (leafR kd s))) := .agg (.cons (.refl _) (.cons (.refl _) (.cons (.refl _) (.cons (.refl _) (.cons (Sub.list (fun h => h) (fun i hi => by omega)) .nil)))))
theorem leaf_W (kd : Int) (s : List UInt8) (hs : s.length ≤ 4096) : WvD 1 (canC (leafR kd s)) := WvD_enc (v := leafV kd s) (leaf_wf kd s) (by rw [leaf_sz]; omega)
theorem alive23_ok : CallOK Tryd.prog 19 [] [] (.ret (.bool true) []) := by
  obtain ⟨a1, a2⟩ := leaf_ap (kd := 4) (e := 1) (s := [60]) (.inl rfl) (by simp) (by omega) (by omega)
  have e1 : apRE 1 1 (leafR 4 [60]) = 0 := by unfold apRE; rw [leaf_dec]; exact a1
  have e2 : apRV 1 1 (leafR 4 [60]) = [38, 108, 116, 59] := by
    unfold apRV
    rw [leaf_dec, a2]
    have : rpP [60] = [60] := by
      rw [← repB_rp]
      unfold repB
      exact repF_ascii [60] 1 (by simp) (fun c hc => by simp at hc; subst hc; decide)
    unfold plP escP
    rw [this]
    decide
  refine (layL1_ok 1).callF (G := []) rfl (fun k => (alive23_fun (WvD 1) (apRV 1) (apRE 1) safeB k).trans ?_)
  refine (congrArg (fun c => cond c _ none) (tst_true ⟨leaf_W 4 [60] (by simp), .cons (.refl _) (.cons (leaf_sub 4 [60]) .nil), rfl⟩)).trans ((cond_true _ _).trans ?_)
  show k (.ret (.bool (bif bif apRE 1 1 (leafR 4 [60]) == 0 then apRV 1 1 (leafR 4 [60]) == [38, 108, 116, 59] else false then safeB 1 7 else false)) []) = _
  rw [e1, e2]
  rfl
theorem aliveT_ok : ∀ xs H k out, aliveT xs H k = some out → ∃ o, CallOK Tryd.prog 19 xs H o ∧ k o = some out := mkFS_ok fun ys xs e h => by
  subst e
  exact ⟨_, fun k => rfl, alive23_ok⟩
theorem rsaTold_ok : ∀ xs H k out, saTold safeB xs H k = some out → ∃ o, CallOK Tryd.prog 23 xs H o ∧ k o = some out := mkFS_ok fun ys xs e h => by
  obtain ⟨n, m, rfl⟩ : ∃ n m, xs = [.int .i64 n, .int .i64 m] := ⟨_, _, e⟩
  exact ⟨_, fun k => rfl, rsafe_ok n m⟩
theorem layL2_ok (d : Nat) : (layL2 (WvD d) (apRV d) (apRE d) safeB escP).OK Tryd.prog := (((Lay.nil_ok.addF (apTold_ok d)).addF rsaTold_ok).addF rescTold_ok).addF aliveT_ok
theorem law23s_ok (e kd : Int) (s : List UInt8) (he : -9223372036854775808 ≤ e ∧ e ≤ 9223372036854775807) (hk : -9223372036854775808 ≤ kd ∧ kd ≤ 9223372036854775807) (hs : s.length ≤ 1048576) : CallOK Tryd.prog 5 [.int .i64 e, .int .i64 kd, .str s] [] (.ret (.bool true) []) := by
  have t12 : -12 < e.tmod 12 ∧ e.tmod 12 < 12 := by
    have := Int.lt_tmod_of_pos e (show (0 : Int) < 12 by decide)
    have := Int.tmod_lt_of_pos e (show (0 : Int) < 12 by decide)
    omega
  have t5 : -5 < kd.tmod 5 ∧ kd.tmod 5 < 5 := by
    have := Int.lt_tmod_of_pos kd (show (0 : Int) < 5 by decide)
    have := Int.tmod_lt_of_pos kd (show (0 : Int) < 5 by decide)
    omega
  have w0 : IntKind.i64.wrap (e.tmod 12 + 12) = e.tmod 12 + 12 := wrap_of (by omega) (by omega)
  have w1 : IntKind.i64.wrap (kd.tmod 5 + 5) = kd.tmod 5 + 5 := wrap_of (by omega) (by omega)
  have u0 : 0 ≤ (e.tmod 12 + 12).tmod 12 ∧ (e.tmod 12 + 12).tmod 12 < 12 := ⟨Int.tmod_nonneg _ (by omega), Int.tmod_lt_of_pos _ (by decide)⟩
  have u1 : 0 ≤ (kd.tmod 5 + 5).tmod 5 ∧ (kd.tmod 5 + 5).tmod 5 < 5 := ⟨Int.tmod_nonneg _ (by omega), Int.tmod_lt_of_pos _ (by decide)⟩
  have w3 : IntKind.i64.wrap (1 + (e.tmod 12 + 12).tmod 12) = 1 + (e.tmod 12 + 12).tmod 12 := wrap_of (by omega) (by omega)
  have w2 : IntKind.i64.wrap (7 + (kd.tmod 5 + 5).tmod 5) = 7 + (kd.tmod 5 + 5).tmod 5 := wrap_of (by omega) (by omega)
  refine (layL2_ok 1).callF (G := []) rfl (fun k => (law23s_fun (WvD 1) (apRV 1) (apRE 1) safeB escP e kd s k).trans ?_)
  simp only [w0, w1, w2, w3, Bool.and_false, Bool.not_false, cond_true]
  generalize hn3 : 1 + (e.tmod 12 + 12).tmod 12 = n3
  generalize hn2 : 7 + (kd.tmod 5 + 5).tmod 5 = n2
  have b3 : 1 ≤ n3 ∧ n3 ≤ 12 := by omega
  have b2 : 7 ≤ n2 ∧ n2 ≤ 11 := by omega
  by_cases hl : (s.length : Int) > 4096
  · rw [dT hl]; rfl
  rw [dF hl, cond_false]
  have hl2 : s.length ≤ 4096 := by omega
  obtain ⟨a1, a2⟩ := leaf_ap (kd := n2) (e := n3) (s := s) (.inr b2) hl2 b3.1 b3.2
  obtain ⟨c1, c2⟩ := leaf_ap (kd := 4) (e := n3) (s := s) (.inl rfl) hl2 b3.1 b3.2
  refine (congrArg (fun c => cond c _ none) (tst_true ⟨leaf_W n2 s hl2, .cons (.refl _) (.cons (leaf_sub n2 s) .nil), by trivial⟩)).trans ((cond_true _ _).trans ?_)
  refine (congrArg (fun c => cond c _ none) (tst_true ⟨leaf_W 4 s hl2, .cons (.refl _) (.cons (leaf_sub 4 s) .nil), by trivial⟩)).trans ((cond_true _ _).trans ?_)
  have x2 : apRE 1 n3 (leafR n2 s) = 0 := by unfold apRE; rw [leaf_dec]; exact a1
  have x4 : apRE 1 n3 (leafR 4 s) = 0 := by unfold apRE; rw [leaf_dec]; exact c1
  have y2 : apRV 1 n3 (leafR n2 s) = apV 1 n3 (leafV n2 s) := by unfold apRV; rw [leaf_dec]
  have y4 : apRV 1 n3 (leafR 4 s) = apV 1 n3 (leafV 4 s) := by unfold apRV; rw [leaf_dec]
  show cond (IntKind.i64.wrap (apRE 1 n3 (leafR n2 s) + apRE 1 n3 (leafR 4 s)) != 0) _ (cond (!safeB n3 n2) (k (.ret (.bool (apRV 1 n3 (leafR n2 s) == apRV 1 n3 (leafR 4 s))) [])) (cond (decide (s.length ≤ 1073741824)) (k (.ret (.bool (bif apRV 1 n3 (leafR n2 s) == s then true else apRV 1 n3 (leafR n2 s) == escP s)) [])) none)) = _
  rw [x2, x4, y2, y4, a2, c2, safe4]
  cases hsf : safeB n3 n2 with
  | false =>
    simp only [Bool.false_eq_true, if_false, beq_self_eq_true]
    rfl
  | true =>
    rw [dT (show s.length ≤ 1073741824 by omega)]
    simp only [if_true]
    by_cases h3 : n3 = 1 ∨ n3 = 7 ∨ n3 = 11
    · rw [if_pos h3, beq_self_eq_true]; rfl
    · rw [if_neg h3, beq_self_eq_true]
      show k (.ret (.bool (bif escP s == s then true else true)) []) = _
      rw [Bool.cond_self]
end Go.Mu
set_option linter.unusedVariables false
namespace Go.Mu
open Go
variable {H : Type}
mutual
theorem size_bulk : ∀ d : DataW H, (tOf d).size ≤ Go.Proofs.YtfepcpcnfibbnaaDoor.Rows.uptoBulk d
  | .lit (.bool _) => by simp [tOf, T.size, Go.Proofs.YtfepcpcnfibbnaaDoor.Rows.uptoBulk]
  | .lit (.int _ _) => by simp [tOf, T.size, Go.Proofs.YtfepcpcnfibbnaaDoor.Rows.uptoBulk]
  | .lit (.string _) => by simp [tOf, T.size, Go.Proofs.YtfepcpcnfibbnaaDoor.Rows.uptoBulk]
  | .lit (.float _ _) => by simp [tOf, T.size, T.sizes, Go.Proofs.YtfepcpcnfibbnaaDoor.Rows.uptoBulk]
  | .lit .nil => by simp [tOf, T.size, T.sizes, Go.Proofs.YtfepcpcnfibbnaaDoor.Rows.uptoBulk]
  | .nil => by simp [tOf, T.size, T.sizes, Go.Proofs.YtfepcpcnfibbnaaDoor.Rows.uptoBulk]
  | .ptr d => by simp [tOf, T.size, T.sizes, Go.Proofs.YtfepcpcnfibbnaaDoor.Rows.uptoBulk]
  | .slice es sp => by
    have := size_bulks es
    simp only [tOf, T.size, Go.Proofs.YtfepcpcnfibbnaaDoor.Rows.uptoBulk]
    omega
  | .agg ps => by
    have := size_bulks ps
    simp only [tOf, T.size, Go.Proofs.YtfepcpcnfibbnaaDoor.Rows.uptoBulk]
    omega
  | .iface _ d => by simp [tOf, T.size, T.sizes, Go.Proofs.YtfepcpcnfibbnaaDoor.Rows.uptoBulk]
  | .map _ => by simp [tOf, T.size, T.sizes, Go.Proofs.YtfepcpcnfibbnaaDoor.Rows.uptoBulk]
  | .held _ => by simp [tOf, T.size, T.sizes, Go.Proofs.YtfepcpcnfibbnaaDoor.Rows.uptoBulk]
theorem size_bulks : ∀ ds : List (DataW H), T.sizes (tOfs ds) ≤ Go.Proofs.YtfepcpcnfibbnaaDoor.Rows.uptoBulkAll ds
  | [] => by simp [tOfs, T.sizes, Go.Proofs.YtfepcpcnfibbnaaDoor.Rows.uptoBulkAll]
  | d :: ds => by
    have := size_bulk d
    have := size_bulks ds
    simp only [tOfs, T.sizes, Go.Proofs.YtfepcpcnfibbnaaDoor.Rows.uptoBulkAll]
    omega
end
theorem small_size {ds : List (DataW H)} (h : Go.Proofs.YtfepcpcnfibbnaaDoor.Rows.uptoSmall H ds = true) : T.sizes (tOfs ds) ≤ 1048576 := by
  unfold Go.Proofs.YtfepcpcnfibbnaaDoor.Rows.uptoSmall at h
  have := size_bulks ds
  have := of_decide_eq_true h
  omega
end Go.Mu
set_option linter.unusedVariables false
set_option linter.unusedSimpArgs false
set_option maxRecDepth 100000
namespace Go.Proofs
open Go.Shelf
theorem Tryd.uRen_260 : Lays.n260 Tryd.prog Tryd.uRen := { Tryd.uRen_197 with }
theorem Tryd.u8Extra : U8Extra Tryd.prog Tryd.uRen where
  n3 := by kernel_rfl
  n4 := by kernel_rfl
  y3 := by kernel_rfl
  y4 := by kernel_rfl
  c5 := by kernel_rfl
  c119 := by kernel_rfl
  c138 := by kernel_rfl
end Go.Proofs
namespace Go.Mu
open Go Go.Proofs
theorem tabs_glob {W : World} {laid : List (String × DataW Unit)} (hl : laidMet Tryd.prog laid W) (h1 : ("unicode/utf8.first", Lib.firstData) ∈ laid) (h2 : ("unicode/utf8.acceptRanges", Lib.acceptData) ∈ laid) : ∀ g cells, gvals g = some cells → RepP W (oldB W) (.rptr cells) (.pointer (some ⟨g, 0, none⟩)) := by
  have hT : Lib.Utf8Tabs 1 2 W := utf8Tabs_of_reads Tryd.uRen_260 Tryd.u8Extra (Lib.laidMet.reads hl h1) (Lib.laidMet.reads hl h2)
  obtain ⟨t1, t2⟩ := hT
  have lt : ∀ {g j v}, W.cell? ⟨g, j, none⟩ = some v → oldB W g := fun {g j v} h => by
    show g < W.heap.size
    unfold World.cell? at h
    by_cases hlt : g < W.heap.size
    · exact hlt
    · have hle : W.heap.size ≤ (Addr.mk g j none).block := by show W.heap.size ≤ g; omega
      rw [Array.getElem?_eq_none hle] at h
      simp at h
  intro g cells hg
  unfold gvals at hg
  split at hg
  · rename_i e
    have e : g = 1 := by simpa using e
    subst e
    simp only [Option.some.injEq] at hg
    subst hg
    refine .rptr _ _ 0 (fun j => .int .u8 (Lib.firstT j)) (lt (t1 0 (by omega))) (fun j hj => ?_) (fun j hj => ?_)
    · simp only [List.length_map, List.length_range] at hj
      rw [Nat.zero_add]
      exact ⟨t1 j hj, rfl⟩
    · simp only [List.length_map, List.length_range] at hj
      rw [List.getD_eq_getElem?_getD, List.getElem?_map, List.getElem?_range hj]
      exact .int _ _
  · split at hg
    · rename_i e
      have e : g = 2 := by simpa using e
      subst e
      simp only [Option.some.injEq] at hg
      subst hg
      refine .rptr _ _ 0 (fun j => .int .u8 ((if j % 2 = 0 then Lib.accLo (j / 2) else Lib.accHi (j / 2) : Nat) : Int)) (lt (t2 0 (by omega)).1) (fun j hj => ?_) (fun j hj => ?_)
      · simp only [List.length_map, List.length_range] at hj
        rw [Nat.zero_add]
        refine ⟨?_, rfl⟩
        have h3 := t2 (j / 2) (by omega)
        by_cases hp : j % 2 = 0
        · rw [if_pos hp]
          have : 2 * (j / 2) = j := by omega
          rw [this] at h3
          exact h3.1
        · rw [if_neg hp]
          have : 2 * (j / 2) + 1 = j := by omega
          rw [this] at h3
          exact h3.2
      · simp only [List.length_map, List.length_range] at hj
        rw [List.getD_eq_getElem?_getD, List.getElem?_map, List.getElem?_range hj]
        simp only [Option.map_some, Option.getD_some]
        split <;> exact .int _ _
    · cases hg
end Go.Mu
